/-
  Contracts of the functions on Swiss rounds.
-/
import Derived.Laws.ShiftsVar
import Derived.Test.YtafhcnnbiheofaaBase
import Derived.Test.YtafhcnnbiheofaaMathA
import Derived.Test.YtafhcnnbiheofaaMathD
import Derived.Test.YtafhcnnbiheofaaLib
import Derived.Test.YtafhcnnbiheofaaAid
import Derived.Test.YtafhcnnbiheofaaGrid
import Derived.Test.YtafhcnnbiheofaaLibF
import Derived.Test.YtafhcnnbiheofaaMathS
namespace Go.Proofs.Ytafhcnnbiheofaa
open Go.RowKit
set_option linter.unusedVariables false

-- impl.isSwiss
theorem iisSwiss_any (A : Option Addr) (n c : Nat) (xs : List Int) (w : World) (h : Ints w A n c xs) :
    Calls Try.prog 81 #[.slice A n c] w fun e w' => e = .returned (.bool (decide (isSwiss xs))) ∧ Ext w w' := by
  have HL := hide h.len
  have HI := hide h
  have hle := h.le
  have hmx := h.max
  clear h
  by_cases h1 : 2 ≤ n ∧ n ≤ 8
  · by_cases h2 : n % 2 = 0
    · go_enter Try.func81, Try.ntmps81
      go_wp2_with (first | (go_at_call 70; refine (within_any _ _ _ _).mono ?_; rintro e w' ⟨rfl, rfl⟩) | (go_at_call 103; refine (allWithin_any _ _ _ xs _ _ _ HI.out).mono ?_; rintro e w1 ⟨rfl, hE1⟩))
      go_ret
      exact ⟨ret_bool (by simp only [isSwiss, HL.out]; simp [h1, h2]), hE1⟩
    · go_enter Try.func81, Try.ntmps81
      go_wp2_with (first | (go_at_call 70; refine (within_any _ _ _ _).mono ?_; rintro e w' ⟨rfl, rfl⟩))
      go_ret
      exact ⟨ret_bool (by symm; rw [decide_eq_false_iff_not]; intro hs; have := hs.2.1; rw [HL.out] at this; exact h2 this), Ext.refl _⟩
  · go_enter Try.func81, Try.ntmps81
    go_wp2_with (first | (go_at_call 70; refine (within_any _ _ _ _).mono ?_; rintro e w' ⟨rfl, rfl⟩))
    go_ret
    exact ⟨ret_bool (by symm; rw [decide_eq_false_iff_not]; intro hs; have := hs.1; rw [HL.out] at this; exact h1 this), Ext.refl _⟩
-- spec.l24Size
theorem l24Size_any (n : Nat) (w : World) :
    Calls Try.prog 86 #[.int .i64 (n : Int)] w fun e w' => e = .returned (.bool (decide ((2 ≤ n ∧ n ≤ 8) ∧ n % 2 = 0))) ∧ w = w' := by
  by_cases h2 : n = 2
  · subst h2
    go_enter Try.func86, Try.ntmps86
    go_wp2
    go_ret
    exact ⟨rfl, rfl⟩
  by_cases h4 : n = 4
  · subst h4
    go_enter Try.func86, Try.ntmps86
    go_wp2
    go_ret
    exact ⟨rfl, rfl⟩
  by_cases h6 : n = 6
  · subst h6
    go_enter Try.func86, Try.ntmps86
    go_wp2
    go_ret
    exact ⟨rfl, rfl⟩
  by_cases h8 : n = 8
  · subst h8
    go_enter Try.func86, Try.ntmps86
    go_wp2
    go_ret
    exact ⟨rfl, rfl⟩
  have g2 : ((n : Int) == 2) = false := by simp; omega
  have g4 : ((n : Int) == 4) = false := by simp; omega
  have g6 : ((n : Int) == 6) = false := by simp; omega
  have g8 : ((n : Int) == 8) = false := by simp; omega
  go_enter Try.func86, Try.ntmps86
  go_wp2
  go_ret
  exact ⟨ret_bool (by symm; rw [decide_eq_false_iff_not]; omega), rfl⟩
-- spec.l24Points
theorem l24Points_any (A : Option Addr) (n c : Nat) (xs : List Int) (w : World) (h : Ints w A n c xs) :
    Calls Try.prog 80 #[.slice A n c] w fun e w' => e = .returned (.bool (decide (isSwiss xs))) ∧ w = w' := by
  have HL := hide h.len
  have hle := h.le
  have hmx := h.max
  by_cases h1 : (2 ≤ n ∧ n ≤ 8) ∧ n % 2 = 0
  · have HD := hide (decide_eq_true h1)
    go_enter Try.func80, Try.ntmps80
    go_wp2_with (go_at_call 86; refine (l24Size_any n _).mono ?_; rw [HD.out]; rintro e w' ⟨rfl, rfl⟩)
    go_loop [11] (fun i => ∃ k : Nat, k ≤ n ∧ i = .int .i64 k ∧ Hid (∀ x ∈ xs.take k, 0 ≤ x ∧ x ≤ 100)) (fun i => n - (intOf i).toNat)
    case atStart => exact ⟨0, Nat.zero_le _, rfl, hide (by simp)⟩
    case round =>
      obtain ⟨k, hk, rfl, HV⟩ := hrel
      by_cases hlt : k < n
      · obtain ⟨b, off, x, rfl, hb, hx, wx, hc⟩ := h.get hlt
        have HX := hide hx; clear hx
        by_cases hin : 0 ≤ x ∧ x ≤ 100
        · go_wp2_with (go_at_call 67; refine (l01In_any _ _ _ _).mono ?_; rintro e w' ⟨rfl, rfl⟩)
          go_round
          case rel =>
            refine ⟨k + 1, by omega, by go_num, hide ?_⟩
            rw [take_snoc_of HX.out]
            intro z hz
            rcases List.mem_append.1 hz with hz | hz
            · exact HV.out z hz
            · obtain rfl : z = x := by simpa using hz
              exact hin
          case measure => (simp [intOf] <;> omega)
        · go_wp2_with (go_at_call 67; refine (l01In_any _ _ _ _).mono ?_; rintro e w' ⟨rfl, rfl⟩)
          go_ret
          exact ⟨ret_bool (by symm; rw [decide_eq_false_iff_not]; intro hs; exact hin (hs.2.2 x (List.mem_of_getElem? HX.out))), rfl⟩
      · have hke : k = n := by omega
        subst hke
        go_wp2
        go_ret
        exact ⟨ret_bool (by symm; rw [decide_eq_true_eq]; have hv := HV.out; rw [take_len HL.out] at hv; exact ⟨by rw [HL.out]; exact h1.1, by rw [HL.out]; exact h1.2, hv⟩), rfl⟩
  · have HD := hide (decide_eq_false h1)
    go_enter Try.func80, Try.ntmps80
    go_wp2_with (go_at_call 86; refine (l24Size_any n _).mono ?_; rw [HD.out]; rintro e w' ⟨rfl, rfl⟩)
    go_ret
    exact ⟨ret_bool (by symm; rw [decide_eq_false_iff_not]; intro hs; exact h1 ⟨by have := hs.1; rwa [HL.out] at this, by have := hs.2.1; rwa [HL.out] at this⟩), rfl⟩
-- float impl
theorem iFloat_any (A : Option Addr) (n c : Nat) (xs : List Int) (A2 : Option Addr) (n2 c2 : Nat) (ps : List Int) (w : World) (h : Ints w A n c xs) (h2 : Ints w A2 n2 c2 ps) (hs : isSwiss xs) (hp : pairsOk n ps) :
    Calls Try.prog 79 #[.slice A n c, .slice A2 n2 c2] w fun e w' => e = .returned (.int .i64 (sumTo (drop1 xs ps) n)) ∧ Ext w w' := by
  have HL := hide h.len
  have HL2 := hide h2.len
  have hnn : n2 = n := by have := HL2.out; have := hp.1; omega
  subst hnn
  have hle := h2.le
  have hmx := h2.max
  have h8 : n2 ≤ 8 := by have := HL.out; have := hs.1; omega
  have HS := hide hs; have HP := hide hp; clear hs hp
  go_enter Try.func79, Try.ntmps79
  go_wp2
  go_loopw [5, 10] (fun m i wr => ∃ k : Nat, k ≤ n2 ∧ i = .int .i64 k ∧ m = .int .i64 (sumTo (drop1 xs ps) k) ∧ Ext w wr) (fun _ i _ => n2 - (intOf i).toNat)
  case atStart => exact ⟨0, Nat.zero_le _, rfl, rfl, Ext.refl _⟩
  case round =>
    obtain ⟨k, hk, rfl, rfl, hE⟩ := hrel
    have HB := hide (drop1_bound (n := 0) (xs := xs) (ps := ps) (k := k) HS.out.2.2)
    by_cases hlt : k < n2
    · obtain ⟨b, off, j', rfl, hb, hj', wj, hc⟩ := (h2.ext hE).get hlt
      have hin := pairsOk_all HP.out j' (List.mem_of_getElem? hj')
      obtain ⟨j, rfl⟩ : ∃ j : Nat, j' = (j : Int) := ⟨j'.toNat, by omega⟩
      obtain ⟨b1, o1, x, rfl, hb1, hx, wx, hcx⟩ := (h.ext hE).get hlt
      obtain ⟨b2, o2, y, e2, hb2, hy, wy, hcy⟩ := (h.ext hE).get (k := j) (by omega)
      cases e2
      have hx0 := HS.out.2.2 x (List.mem_of_getElem? hx)
      have hy0 := HS.out.2.2 y (List.mem_of_getElem? hy)
      have HN := hide (show sumTo (drop1 xs ps) (k + 1) = _ from congrArg (sumTo (drop1 xs ps) k + ·) (drop1_get hx hj' hy))
      have hsb := HB.out
      have HE := hide hE
      clear hx hy hj' hE
      generalize sumTo (drop1 xs ps) k = S at *
      have hw1 : IntKind.i64.wrap (x - y) = x - y := by simp [IntKind.wrap, IntKind.bits, IntKind.signed]; omega
      by_cases hxy : 0 < x - y
      · have hw2 : IntKind.i64.wrap (S + (x - y)) = S + (x - y) := by simp [IntKind.wrap, IntKind.bits, IntKind.signed]; omega
        go_wp2
        go_quiet (fail)
        go_wp2
        go_roundw
        case rel => exact ⟨k + 1, by omega, by go_num, by rw [HN.out]; exact congrArg _ (by first | omega | (simp only []; split <;> omega)), HE.out.drewN _⟩
        case measure => (simp [intOf] <;> omega)
      · have hw2 : IntKind.i64.wrap (S + 0) = S := by simp [IntKind.wrap, IntKind.bits, IntKind.signed]; omega
        have hw3 : IntKind.i64.wrap S = S := by simp [IntKind.wrap, IntKind.bits, IntKind.signed]; omega
        go_wp2
        go_quiet (fail)
        go_wp2
        go_roundw
        case rel => exact ⟨k + 1, by omega, by go_num, by rw [HN.out]; exact congrArg _ (by first | omega | (simp only []; split <;> omega)), HE.out.drewN _⟩
        case measure => (simp [intOf] <;> omega)
    · have hke : k = n2 := by omega
      subst hke
      have HE := hide hE; clear hE
      go_wp2
      go_ret
      exact ⟨rfl, HE.out⟩
-- float spec
theorem sFloat_any (A : Option Addr) (n c : Nat) (xs : List Int) (A2 : Option Addr) (n2 c2 : Nat) (ps : List Int) (w : World) (h : Ints w A n c xs) (h2 : Ints w A2 n2 c2 ps) (hs : isSwiss xs) (hp : pairsOk n ps) :
    Calls Try.prog 78 #[.slice A n c, .slice A2 n2 c2] w fun e w' => e = .returned (.int .i64 (sumTo (gap1 xs ps) n)) ∧ Ext w w' := by
  have HL := hide h.len
  have HL2 := hide h2.len
  have hnn : n2 = n := by have := HL2.out; have := hp.1; omega
  subst hnn
  have hle := h2.le
  have hmx := h2.max
  have h8 : n2 ≤ 8 := by have := HL.out; have := hs.1; omega
  have HS := hide hs; have HP := hide hp; clear hs hp
  go_enter Try.func78, Try.ntmps78
  go_wp2
  go_loopw [5, 10] (fun m i wr => ∃ k : Nat, k ≤ n2 ∧ i = .int .i64 k ∧ m = .int .i64 (sumTo (gap1 xs ps) k) ∧ Ext w wr) (fun _ i _ => n2 - (intOf i).toNat)
  case atStart => exact ⟨0, Nat.zero_le _, rfl, rfl, Ext.refl _⟩
  case round =>
    obtain ⟨k, hk, rfl, rfl, hE⟩ := hrel
    have HB := hide (gap1_bound (xs := xs) (ps := ps) (k := k) HS.out.2.2)
    by_cases hlt : k < n2
    · obtain ⟨b, off, j', rfl, hb, hj', wj, hc⟩ := (h2.ext hE).get hlt
      have hin := pairsOk_all HP.out j' (List.mem_of_getElem? hj')
      obtain ⟨j, rfl⟩ : ∃ j : Nat, j' = (j : Int) := ⟨j'.toNat, by omega⟩
      obtain ⟨b1, o1, x, rfl, hb1, hx, wx, hcx⟩ := (h.ext hE).get hlt
      obtain ⟨b2, o2, y, e2, hb2, hy, wy, hcy⟩ := (h.ext hE).get (k := j) (by omega)
      cases e2
      have hx0 := HS.out.2.2 x (List.mem_of_getElem? hx)
      have hy0 := HS.out.2.2 y (List.mem_of_getElem? hy)
      have HN := hide (show sumTo (gap1 xs ps) (k + 1) = _ from congrArg (sumTo (gap1 xs ps) k + ·) (gap1_get hx hj' hy))
      have hsb := HB.out
      have HE := hide hE
      clear hx hy hj' hE
      generalize sumTo (gap1 xs ps) k = S at *
      have hw1 : IntKind.i64.wrap (x - y) = x - y := by simp [IntKind.wrap, IntKind.bits, IntKind.signed]; omega
      have hw4 : IntKind.i64.wrap (y - x) = y - x := by simp [IntKind.wrap, IntKind.bits, IntKind.signed]; omega
      by_cases hkj : k < j
      · have hkj' : (k : Int) < (j : Int) := by omega
        have hw2 : IntKind.i64.wrap (S + (x - y)) = S + (x - y) ∨ x < y := by
          by_cases h : x < y
          · exact .inr h
          · left; simp [IntKind.wrap, IntKind.bits, IntKind.signed]; omega
        by_cases hxy : x - y < y - x
        · have hw3 : IntKind.i64.wrap (S + (y - x)) = S + (y - x) := by simp [IntKind.wrap, IntKind.bits, IntKind.signed]; omega
          clear hw2
          rw [if_pos hkj] at HN
          go_wp2
          go_quiet (fail)
          go_wp2
          go_roundw
          case rel => exact ⟨k + 1, by omega, by go_num, by rw [HN.out]; exact congrArg _ (by first | omega | (simp only []; split <;> omega)), HE.out.drewN _⟩
          case measure => (simp [intOf] <;> omega)
        · have hw3 : IntKind.i64.wrap (S + (x - y)) = S + (x - y) := by simp [IntKind.wrap, IntKind.bits, IntKind.signed]; omega
          clear hw2
          rw [if_pos hkj] at HN
          go_wp2
          go_quiet (fail)
          go_wp2
          go_roundw
          case rel => exact ⟨k + 1, by omega, by go_num, by rw [HN.out]; exact congrArg _ (by first | omega | (simp only []; split <;> omega)), HE.out.drewN _⟩
          case measure => (simp [intOf] <;> omega)
      · have hkj' : ¬ (k : Int) < (j : Int) := by omega
        rw [if_neg hkj] at HN
        go_wp2
        go_roundw
        case rel => exact ⟨k + 1, by omega, by go_num, by rw [HN.out]; exact congrArg _ (by omega), HE.out⟩
        case measure => (simp [intOf] <;> omega)
    · have hke : k = n2 := by omega
      subst hke
      have HE := hide hE; clear hE
      go_wp2
      go_ret
      exact ⟨rfl, HE.out⟩

end Go.Proofs.Ytafhcnnbiheofaa
