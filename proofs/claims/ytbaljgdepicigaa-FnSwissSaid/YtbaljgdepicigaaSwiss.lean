/-
  Contracts of the functions on Swiss rounds.
-/
import Derived.Laws.ShiftsVar
import Derived.Test.YtbaljgdepicigaaBase
import Derived.Test.YtbaljgdepicigaaMathA
import Derived.Test.YtbaljgdepicigaaMathD
import Derived.Test.YtbaljgdepicigaaLib
import Derived.Test.YtbaljgdepicigaaAid
import Derived.Test.YtbaljgdepicigaaGrid
import Derived.Test.YtbaljgdepicigaaLibF
import Derived.Test.YtbaljgdepicigaaMathS
namespace Go.Proofs.Ytbaljgdepicigaa
open Go.RowKit
set_option linter.unusedVariables false

-- impl.isSwiss
theorem iisSwiss_any (A : Option Addr) (n c : Nat) (xs : List Int) (w : World) (h : Ints w A n c xs) :
    Calls Try.prog 86 #[.slice A n c] w fun e w' => e = .returned (.bool (decide (isSwiss xs))) ∧ Ext w w' := by
  have HL := hide h.len
  have HI := hide h
  have hle := h.le
  have hmx := h.max
  clear h
  by_cases h1 : 2 ≤ n ∧ n ≤ 8
  · by_cases h2 : n % 2 = 0
    · go_enter Try.func86, Try.ntmps86
      go_wp2_with (first | (go_at_call 94; refine (within_any _ _ _ _).mono ?_; rintro e w' ⟨rfl, rfl⟩) | (go_at_call 88; refine (allWithin_any _ _ _ xs _ _ _ HI.out).mono ?_; rintro e w1 ⟨rfl, hE1⟩))
      go_ret
      exact ⟨ret_bool (by simp only [isSwiss, HL.out]; simp [h1, h2]), hE1⟩
    · go_enter Try.func86, Try.ntmps86
      go_wp2_with (first | (go_at_call 94; refine (within_any _ _ _ _).mono ?_; rintro e w' ⟨rfl, rfl⟩))
      go_ret
      exact ⟨ret_bool (by symm; rw [decide_eq_false_iff_not]; intro hs; have := hs.2.1; rw [HL.out] at this; exact h2 this), Ext.refl _⟩
  · go_enter Try.func86, Try.ntmps86
    go_wp2_with (first | (go_at_call 94; refine (within_any _ _ _ _).mono ?_; rintro e w' ⟨rfl, rfl⟩))
    go_ret
    exact ⟨ret_bool (by symm; rw [decide_eq_false_iff_not]; intro hs; have := hs.1; rw [HL.out] at this; exact h1 this), Ext.refl _⟩
-- spec.l24Size
theorem l24Size_any (n : Nat) (w : World) :
    Calls Try.prog 145 #[.int .i64 (n : Int)] w fun e w' => e = .returned (.bool (decide ((2 ≤ n ∧ n ≤ 8) ∧ n % 2 = 0))) ∧ w = w' := by
  by_cases h2 : n = 2
  · subst h2
    go_enter Try.func145, Try.ntmps145
    go_wp2
    go_ret
    exact ⟨rfl, rfl⟩
  by_cases h4 : n = 4
  · subst h4
    go_enter Try.func145, Try.ntmps145
    go_wp2
    go_ret
    exact ⟨rfl, rfl⟩
  by_cases h6 : n = 6
  · subst h6
    go_enter Try.func145, Try.ntmps145
    go_wp2
    go_ret
    exact ⟨rfl, rfl⟩
  by_cases h8 : n = 8
  · subst h8
    go_enter Try.func145, Try.ntmps145
    go_wp2
    go_ret
    exact ⟨rfl, rfl⟩
  have g2 : ((n : Int) == 2) = false := by simp; omega
  have g4 : ((n : Int) == 4) = false := by simp; omega
  have g6 : ((n : Int) == 6) = false := by simp; omega
  have g8 : ((n : Int) == 8) = false := by simp; omega
  go_enter Try.func145, Try.ntmps145
  go_wp2
  go_ret
  exact ⟨ret_bool (by symm; rw [decide_eq_false_iff_not]; omega), rfl⟩
-- spec.l24Points
theorem l24Points_any (A : Option Addr) (n c : Nat) (xs : List Int) (w : World) (h : Ints w A n c xs) :
    Calls Try.prog 159 #[.slice A n c] w fun e w' => e = .returned (.bool (decide (isSwiss xs))) ∧ w = w' := by
  have HL := hide h.len
  have hle := h.le
  have hmx := h.max
  by_cases h1 : (2 ≤ n ∧ n ≤ 8) ∧ n % 2 = 0
  · have HD := hide (decide_eq_true h1)
    go_enter Try.func159, Try.ntmps159
    go_wp2_with (go_at_call 145; refine (l24Size_any n _).mono ?_; rw [HD.out]; rintro e w' ⟨rfl, rfl⟩)
    go_loop [11] (fun i => ∃ k : Nat, k ≤ n ∧ i = .int .i64 k ∧ Hid (∀ x ∈ xs.take k, 0 ≤ x ∧ x ≤ 100)) (fun i => n - (intOf i).toNat)
    case atStart => exact ⟨0, Nat.zero_le _, rfl, hide (by simp)⟩
    case round =>
      obtain ⟨k, hk, rfl, HV⟩ := hrel
      by_cases hlt : k < n
      · obtain ⟨b, off, x, rfl, hb, hx, wx, hc⟩ := h.get hlt
        have HX := hide hx; clear hx
        by_cases hin : 0 ≤ x ∧ x ≤ 100
        · go_wp2_with (go_at_call 146; refine (l01In_any _ _ _ _).mono ?_; rintro e w' ⟨rfl, rfl⟩)
          go_round
          case rel =>
            refine ⟨k + 1, by omega, by go_num, hide ?_⟩
            rw [take_snoc_of HX.out]
            intro z hz
            rcases List.mem_append.1 hz with hz | hz
            · exact HV.out z hz
            · obtain rfl : z = x := by simpa using hz
              exact hin
          case measure => (simp [intOf] <;> omega)
        · go_wp2_with (go_at_call 146; refine (l01In_any _ _ _ _).mono ?_; rintro e w' ⟨rfl, rfl⟩)
          go_ret
          exact ⟨ret_bool (by symm; rw [decide_eq_false_iff_not]; intro hs; exact hin (hs.2.2 x (List.mem_of_getElem? HX.out))), rfl⟩
      · have hke : k = n := by omega
        subst hke
        go_wp2
        go_ret
        exact ⟨ret_bool (by symm; rw [decide_eq_true_eq]; have hv := HV.out; rw [take_len HL.out] at hv; exact ⟨by rw [HL.out]; exact h1.1, by rw [HL.out]; exact h1.2, hv⟩), rfl⟩
  · have HD := hide (decide_eq_false h1)
    go_enter Try.func159, Try.ntmps159
    go_wp2_with (go_at_call 145; refine (l24Size_any n _).mono ?_; rw [HD.out]; rintro e w' ⟨rfl, rfl⟩)
    go_ret
    exact ⟨ret_bool (by symm; rw [decide_eq_false_iff_not]; intro hs; exact h1 ⟨by have := hs.1; rwa [HL.out] at this, by have := hs.2.1; rwa [HL.out] at this⟩), rfl⟩
-- impl.areOpponents
theorem iPairs_any (A : Option Addr) (n c : Nat) (ps : List Int) (m : Nat) (w : World) (h : Ints w A n c ps) (hm : m ≤ 8) :
    Calls Try.prog 89 #[.slice A n c, .int .i64 (m : Int)] w fun e w' => e = .returned (.bool (decide (pairsOk m ps))) ∧ Ext w w' := by
  have HL := hide h.len
  have HI := hide h
  have hle := h.le
  have hmx := h.max
  by_cases hnm : n = m
  · subst hnm
    by_cases hall : ∀ x ∈ ps, 0 ≤ x ∧ x ≤ (n : Int) - 1
    · have HA := hide hall; clear hall
      go_enter Try.func89, Try.ntmps89
      go_wp2_with (go_at_call 88; refine (allWithin_any _ _ _ ps _ _ _ HI.out).mono ?_; rw [decide_eq_true HA.out]; rintro e w1 ⟨rfl, hE1⟩)
      have HE1 := hide hE1; clear hE1
      go_loop [20] (fun i => ∃ k : Nat, k ≤ n ∧ i = .int .i64 k ∧ Hid (pairsTo ps k)) (fun i => n - (intOf i).toNat)
      case atStart => exact ⟨0, Nat.zero_le _, rfl, hide (fun a ha => absurd ha (Nat.not_lt_zero _))⟩
      case round =>
        obtain ⟨k, hk, rfl, HV⟩ := hrel
        by_cases hlt : k < n
        · obtain ⟨b, off, x, rfl, hb, hx, wx, hc⟩ := (h.ext HE1.out).get hlt
          have hin := HA.out x (List.mem_of_getElem? hx)
          obtain ⟨j, rfl⟩ : ∃ j : Nat, x = (j : Int) := ⟨x.toNat, by omega⟩
          obtain ⟨b', off', y, e', hb', hy, wy, hc'⟩ := (h.ext HE1.out).get (k := j) (by omega)
          cases e'
          have HX := hide hx; have HY := hide hy; clear hx hy
          by_cases hkj : (k : Int) = (j : Int)
          · have hb1 : ((k : Int) == (j : Int)) = true := by simpa using hkj
            have HN := hide (fun hp : pairsOk n ps => (hp.2 k (by have := HL.out; omega)).2.1 (by rw [List.getD, HX.out]; exact hkj.symm))
            clear hkj
            go_wp2
            go_ret
            exact ⟨ret_bool (by symm; rw [decide_eq_false_iff_not]; exact HN.out), HE1.out⟩
          · have hb1 : ((k : Int) == (j : Int)) = false := by simpa using hkj
            by_cases hyk : y = (k : Int)
            · have hb2 : (y != (k : Int)) = false := by simp [hyk]
              have HS := hide (pairsTo_succ HV.out HX.out (hyk ▸ HY.out) hkj)
              clear hyk hkj
              go_wp2
              go_round
              case rel => exact ⟨k + 1, by omega, by go_num, HS⟩
              case measure => (simp [intOf] <;> omega)
            · have hb2 : (y != (k : Int)) = true := by simp [hyk]
              have HN := hide (fun hp : pairsOk n ps => hyk (by have h3 := (hp.2 k (by have := HL.out; omega)).2.2; simpa [List.getD, HX.out, HY.out] using h3))
              clear hyk hkj
              go_wp2
              go_ret
              exact ⟨ret_bool (by symm; rw [decide_eq_false_iff_not]; exact HN.out), HE1.out⟩
        · have hke : k = n := by omega
          subst hke
          go_wp2
          go_ret
          exact ⟨ret_bool (by symm; rw [decide_eq_true_eq]; exact pairsTo_done HV.out HL.out HA.out), HE1.out⟩
    · have HA := hide hall; clear hall
      go_enter Try.func89, Try.ntmps89
      go_wp2_with (go_at_call 88; refine (allWithin_any _ _ _ ps _ _ _ HI.out).mono ?_; rw [decide_eq_false HA.out]; rintro e w1 ⟨rfl, hE1⟩)
      go_ret
      exact ⟨ret_bool (by symm; rw [decide_eq_false_iff_not]; intro hp; exact HA.out (pairsOk_all hp)), hE1⟩
  · have hb1 : ((n : Int) != (m : Int)) = true := by rw [bne_iff_ne]; omega
    go_enter Try.func89, Try.ntmps89
    go_wp2
    go_ret
    exact ⟨ret_bool (by symm; rw [decide_eq_false_iff_not]; intro hp; have := hp.1; have := HL.out; omega), Ext.refl _⟩
-- float impl
theorem iFloat_any (A : Option Addr) (n c : Nat) (xs : List Int) (A2 : Option Addr) (n2 c2 : Nat) (ps : List Int) (w : World) (h : Ints w A n c xs) (h2 : Ints w A2 n2 c2 ps) (hs : isSwiss xs) (hp : pairsOk n ps) :
    Calls Try.prog 85 #[.slice A n c, .slice A2 n2 c2] w fun e w' => e = .returned (.int .i64 (sumTo (drop1 xs ps) n)) ∧ Ext w w' := by
  have HL := hide h.len
  have HL2 := hide h2.len
  have hnn : n2 = n := by have := HL2.out; have := hp.1; omega
  subst hnn
  have hle := h2.le
  have hmx := h2.max
  have h8 : n2 ≤ 8 := by have := HL.out; have := hs.1; omega
  have HS := hide hs; have HP := hide hp; clear hs hp
  go_enter Try.func85, Try.ntmps85
  go_wp2
  go_loopw [5, 10] (fun m i wr => ∃ k : Nat, k ≤ n2 ∧ i = .int .i64 k ∧ m = .int .i64 (sumTo (drop1 xs ps) k) ∧ Ext w wr) (fun _ i _ => n2 - (intOf i).toNat)
  case atStart => exact ⟨0, Nat.zero_le _, rfl, rfl, Ext.refl _⟩
  case round =>
    obtain ⟨k, hk, rfl, rfl, hE⟩ := hrel
    have HB := hide (drop1_bound (n := 0) (xs := xs) (ps := ps) (k := k) HS.out.2.2)
    by_cases hlt : k < n2
    · obtain ⟨b, off, j', rfl, hb, hj', wj, hc⟩ := (h2.ext hE).get hlt
      have hin := pairsOk_all HP.out j' (List.mem_of_getElem? hj')
      obtain ⟨j, rfl⟩ : ∃ j : Nat, j' = (j : Int) := ⟨j'.toNat, by omega⟩
      obtain ⟨b1, o1, x, rfl, hb1, hx, wx, hcx⟩ := (h.ext hE).get hlt
      obtain ⟨b2, o2, y, e2, hb2, hy, wy, hcy⟩ := (h.ext hE).get (k := j) (by omega)
      cases e2
      have hx0 := HS.out.2.2 x (List.mem_of_getElem? hx)
      have hy0 := HS.out.2.2 y (List.mem_of_getElem? hy)
      have HN := hide (show sumTo (drop1 xs ps) (k + 1) = _ from congrArg (sumTo (drop1 xs ps) k + ·) (drop1_get hx hj' hy))
      have hsb := HB.out
      have HE := hide hE
      clear hx hy hj' hE
      generalize sumTo (drop1 xs ps) k = S at *
      have hw1 : IntKind.i64.wrap (x - y) = x - y := by simp [IntKind.wrap, IntKind.bits, IntKind.signed]; omega
      by_cases hxy : 0 < x - y
      · have hw2 : IntKind.i64.wrap (S + (x - y)) = S + (x - y) := by simp [IntKind.wrap, IntKind.bits, IntKind.signed]; omega
        go_wp2
        go_quiet (fail)
        go_wp2
        go_roundw
        case rel => exact ⟨k + 1, by omega, by go_num, by rw [HN.out]; exact congrArg _ (by first | omega | (simp only []; split <;> omega)), HE.out.drewN _⟩
        case measure => (simp [intOf] <;> omega)
      · have hw2 : IntKind.i64.wrap (S + 0) = S := by simp [IntKind.wrap, IntKind.bits, IntKind.signed]; omega
        have hw3 : IntKind.i64.wrap S = S := by simp [IntKind.wrap, IntKind.bits, IntKind.signed]; omega
        go_wp2
        go_quiet (fail)
        go_wp2
        go_roundw
        case rel => exact ⟨k + 1, by omega, by go_num, by rw [HN.out]; exact congrArg _ (by first | omega | (simp only []; split <;> omega)), HE.out.drewN _⟩
        case measure => (simp [intOf] <;> omega)
    · have hke : k = n2 := by omega
      subst hke
      have HE := hide hE; clear hE
      go_wp2
      go_ret
      exact ⟨rfl, HE.out⟩
-- float spec
theorem sFloat_any (A : Option Addr) (n c : Nat) (xs : List Int) (A2 : Option Addr) (n2 c2 : Nat) (ps : List Int) (w : World) (h : Ints w A n c xs) (h2 : Ints w A2 n2 c2 ps) (hs : isSwiss xs) (hp : pairsOk n ps) :
    Calls Try.prog 107 #[.slice A n c, .slice A2 n2 c2] w fun e w' => e = .returned (.int .i64 (sumTo (gap1 xs ps) n)) ∧ Ext w w' := by
  have HL := hide h.len
  have HL2 := hide h2.len
  have hnn : n2 = n := by have := HL2.out; have := hp.1; omega
  subst hnn
  have hle := h2.le
  have hmx := h2.max
  have h8 : n2 ≤ 8 := by have := HL.out; have := hs.1; omega
  have HS := hide hs; have HP := hide hp; clear hs hp
  go_enter Try.func107, Try.ntmps107
  go_wp2
  go_loopw [5, 10] (fun m i wr => ∃ k : Nat, k ≤ n2 ∧ i = .int .i64 k ∧ m = .int .i64 (sumTo (gap1 xs ps) k) ∧ Ext w wr) (fun _ i _ => n2 - (intOf i).toNat)
  case atStart => exact ⟨0, Nat.zero_le _, rfl, rfl, Ext.refl _⟩
  case round =>
    obtain ⟨k, hk, rfl, rfl, hE⟩ := hrel
    have HB := hide (gap1_bound (xs := xs) (ps := ps) (k := k) HS.out.2.2)
    by_cases hlt : k < n2
    · obtain ⟨b, off, j', rfl, hb, hj', wj, hc⟩ := (h2.ext hE).get hlt
      have hin := pairsOk_all HP.out j' (List.mem_of_getElem? hj')
      obtain ⟨j, rfl⟩ : ∃ j : Nat, j' = (j : Int) := ⟨j'.toNat, by omega⟩
      obtain ⟨b1, o1, x, rfl, hb1, hx, wx, hcx⟩ := (h.ext hE).get hlt
      obtain ⟨b2, o2, y, e2, hb2, hy, wy, hcy⟩ := (h.ext hE).get (k := j) (by omega)
      cases e2
      have hx0 := HS.out.2.2 x (List.mem_of_getElem? hx)
      have hy0 := HS.out.2.2 y (List.mem_of_getElem? hy)
      have HN := hide (show sumTo (gap1 xs ps) (k + 1) = _ from congrArg (sumTo (gap1 xs ps) k + ·) (gap1_get hx hj' hy))
      have hsb := HB.out
      have HE := hide hE
      clear hx hy hj' hE
      generalize sumTo (gap1 xs ps) k = S at *
      have hw1 : IntKind.i64.wrap (x - y) = x - y := by simp [IntKind.wrap, IntKind.bits, IntKind.signed]; omega
      have hw4 : IntKind.i64.wrap (y - x) = y - x := by simp [IntKind.wrap, IntKind.bits, IntKind.signed]; omega
      by_cases hkj : k < j
      · have hkj' : (k : Int) < (j : Int) := by omega
        have hw2 : IntKind.i64.wrap (S + (x - y)) = S + (x - y) ∨ x < y := by
          by_cases h : x < y
          · exact .inr h
          · left; simp [IntKind.wrap, IntKind.bits, IntKind.signed]; omega
        by_cases hxy : x - y < y - x
        · have hw3 : IntKind.i64.wrap (S + (y - x)) = S + (y - x) := by simp [IntKind.wrap, IntKind.bits, IntKind.signed]; omega
          clear hw2
          rw [if_pos hkj] at HN
          go_wp2
          go_quiet (fail)
          go_wp2
          go_roundw
          case rel => exact ⟨k + 1, by omega, by go_num, by rw [HN.out]; exact congrArg _ (by first | omega | (simp only []; split <;> omega)), HE.out.drewN _⟩
          case measure => (simp [intOf] <;> omega)
        · have hw3 : IntKind.i64.wrap (S + (x - y)) = S + (x - y) := by simp [IntKind.wrap, IntKind.bits, IntKind.signed]; omega
          clear hw2
          rw [if_pos hkj] at HN
          go_wp2
          go_quiet (fail)
          go_wp2
          go_roundw
          case rel => exact ⟨k + 1, by omega, by go_num, by rw [HN.out]; exact congrArg _ (by first | omega | (simp only []; split <;> omega)), HE.out.drewN _⟩
          case measure => (simp [intOf] <;> omega)
      · have hkj' : ¬ (k : Int) < (j : Int) := by omega
        rw [if_neg hkj] at HN
        go_wp2
        go_roundw
        case rel => exact ⟨k + 1, by omega, by go_num, by rw [HN.out]; exact congrArg _ (by omega), HE.out⟩
        case measure => (simp [intOf] <;> omega)
    · have hke : k = n2 := by omega
      subst hke
      have HE := hide hE; clear hE
      go_wp2
      go_ret
      exact ⟨rfl, HE.out⟩
-- impl.FloatOf
theorem iFloatOf_any (A : Option Addr) (n c : Nat) (xs : List Int) (A2 : Option Addr) (n2 c2 : Nat) (ps : List Int) (w : World) (h : Ints w A n c xs) (h2 : Ints w A2 n2 c2 ps) :
    Calls Try.prog 20 #[.slice A n c, .slice A2 n2 c2] w fun e w' => e = .returned (.int .i64 (floatOf xs ps)) ∧ Ext w w' := by
  have HL := hide h.len
  have hle := h.le
  have hmx := h.max
  have HI := hide h; have HI2 := hide h2
  clear h h2
  by_cases hs : isSwiss xs
  · have h8 : n ≤ 8 := by have := HL.out; have := hs.1; omega
    have HS := hide hs
    by_cases hp : pairsOk n ps
    · have HP := hide hp
      have HF := hide (show floatOf xs ps = sumTo (drop1 xs ps) n by rw [floatOf, HL.out, if_pos ⟨hs, hp⟩])
      have HQ := hide (float_same (xs := xs) hp)
      clear hs hp
      go_enter Try.func20, Try.ntmps20
      go_wp2_with (first | (go_at_call 86; refine (iisSwiss_any _ _ _ xs _ HI.out).mono ?_; rw [decide_eq_true HS.out]; rintro e w1 ⟨rfl, hE1⟩) | (go_at_call 89; refine (iPairs_any _ _ _ ps n _ (HI2.out.ext hE1) (by omega)).mono ?_; rw [decide_eq_true HP.out]; rintro e w2 ⟨rfl, hE2⟩) | (go_at_call 85; refine (iFloat_any _ _ _ xs _ _ _ ps _ (HI.out.ext (hE1.trans hE2)) (HI2.out.ext (hE1.trans hE2)) HS.out HP.out).mono ?_; rintro e w3 ⟨rfl, hE3⟩))
      go_ret
      exact ⟨ret_int (by rw [HF.out]), (hE1.trans hE2).trans hE3⟩
    · have HP := hide hp
      have HF := hide (show floatOf xs ps = -1 by rw [floatOf, HL.out, if_neg (fun hh => hp hh.2)])
      clear hs hp
      go_enter Try.func20, Try.ntmps20
      go_wp2_with (first | (go_at_call 86; refine (iisSwiss_any _ _ _ xs _ HI.out).mono ?_; rw [decide_eq_true HS.out]; rintro e w1 ⟨rfl, hE1⟩) | (go_at_call 89; refine (iPairs_any _ _ _ ps n _ (HI2.out.ext hE1) (by omega)).mono ?_; rw [decide_eq_false HP.out]; rintro e w2 ⟨rfl, hE2⟩))
      go_ret
      exact ⟨ret_int HF.out.symm, hE1.trans hE2⟩
  · have HS := hide hs
    have HF := hide (show floatOf xs ps = -1 by rw [floatOf, if_neg (fun hh => hs hh.1)])
    clear hs
    go_enter Try.func20, Try.ntmps20
    go_wp2_with (first | (go_at_call 86; refine (iisSwiss_any _ _ _ xs _ HI.out).mono ?_; rw [decide_eq_false HS.out]; rintro e w1 ⟨rfl, hE1⟩))
    go_ret
    exact ⟨ret_int HF.out.symm, hE1⟩

end Go.Proofs.Ytbaljgdepicigaa
