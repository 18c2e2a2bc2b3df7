/-
  Contracts of the laws' helpers that look for a number in a list and compare two lists.
-/
import Derived.Test.YtbaljgdepicigaaDoorBase
import Derived.Test.YtbaljgdepicigaaDoorMgA
import Derived.Test.YtbaljgdepicigaaDoorLib
import Derived.Test.YtbaljgdepicigaaDoorAid
import Derived.Test.YtbaljgdepicigaaDoorStep
import Derived.Test.YtbaljgdepicigaaDoorGrid
namespace Go.Proofs.YtbaljgdepicigaaDoor
open Go.RowKit
set_option linter.unusedVariables false

-- laws.has
theorem lhas_any (A : Option Addr) (n c : Nat) (xs : List Int) (v : Int) (w : World) (h : Ints w A n c xs) :
    Calls Tryd.prog 22 #[.slice A n c, .int .i64 v] w fun e w' => e = .returned (.bool (decide (v ∈ xs))) ∧ w = w' := by
  have HL := hide h.len
  have HI := hide h
  have hle := h.le
  have hmx := h.max
  clear h
  go_enter Tryd.func22, Tryd.ntmps22
  go_wp2
  go_loop [9] (fun i => ∃ k : Nat, k ≤ n ∧ i = .int .i64 (k : Int) ∧ Hid (¬ v ∈ xs.take k)) (fun i => n - (intOf i).toNat)
  case atStart => exact ⟨0, Nat.zero_le _, rfl, hide (by simp)⟩
  case round =>
    obtain ⟨k, hk, rfl, HV⟩ := hrel
    by_cases hlt : k < n
    · obtain ⟨b, off, x, rfl, hb, hx, wx, hc⟩ := HI.out.get hlt
      have HX := hide hx
      have hki : (k : Int) < (n : Int) := by omega
      clear hx
      by_cases e : x = v
      · have hbe : (x == v) = true := by simpa using e
        have HM := hide (show decide (v ∈ xs) = true from decide_eq_true (by rw [← e]; exact List.mem_of_getElem? HX.out))
        clear e
        go_wp2
        go_ret
        exact ⟨ret_bool HM.out.symm, rfl⟩
      · have hbe : (x == v) = false := by simpa using e
        have HE := hide e
        clear e
        go_wp2
        go_round
        case rel => exact ⟨k + 1, hlt, by go_num, hide (mem_take_succ HX.out HV.out (fun e => HE.out e.symm))⟩
        case measure => (simp [intOf] <;> omega)
    · have hke : k = n := by omega
      subst hke
      go_wp2
      go_ret
      exact ⟨ret_bool (by symm; rw [decide_eq_false_iff_not]; have := HV.out; rwa [take_len HL.out] at this), rfl⟩
-- laws.same
theorem lsame_any (A : Option Addr) (n c : Nat) (xs : List Int) (A2 : Option Addr) (n2 c2 : Nat) (ys : List Int) (w : World) (h : Ints w A n c xs) (h2 : Ints w A2 n2 c2 ys) :
    Calls Tryd.prog 34 #[.slice A n c, .slice A2 n2 c2] w fun e w' => e = .returned (.bool (decide (xs = ys))) ∧ w = w' := by
  have HL := hide h.len
  have HL2 := hide h2.len
  have hle := h.le
  have hmx := h.max
  by_cases hnn : n = n2
  · subst hnn
    have hb0 : ((n : Int) != (n : Int)) = false := by simp
    go_enter Tryd.func34, Tryd.ntmps34
    go_wp2
    clear hb0
    go_loop [14] (fun i => ∃ k : Nat, k ≤ n ∧ i = .int .i64 k ∧ Hid (xs.take k = ys.take k)) (fun i => n - (intOf i).toNat)
    case atStart => exact ⟨0, Nat.zero_le _, rfl, hide (by simp)⟩
    case round =>
      obtain ⟨k, hk, rfl, HT⟩ := hrel
      by_cases hlt : k < n
      · obtain ⟨b, off, x, rfl, hb, hx, wx, hc⟩ := h.get hlt
        obtain ⟨b', off', y, rfl, hb', hy, wy, hc'⟩ := h2.get hlt
        have HX := hide hx; have HY := hide hy
        clear hx hy
        by_cases hxy : x = y
        · have hb1 : (x != y) = false := by simp [hxy]
          have HS := hide (show xs.take (k + 1) = ys.take (k + 1) by rw [take_snoc_of HX.out, take_snoc_of HY.out, HT.out, hxy])
          clear hxy
          go_wp2
          go_round
          case rel => exact ⟨k + 1, by omega, by go_num, HS⟩
          case measure => (simp [intOf] <;> omega)
        · have hb1 : (x != y) = true := by simpa using hxy
          have HN := hide (show ¬ xs = ys from fun e => hxy (by have := HX.out; rw [e, HY.out] at this; simpa using this.symm))
          clear hxy
          go_wp2
          go_ret
          exact ⟨ret_bool (by symm; rw [decide_eq_false_iff_not]; exact HN.out), rfl⟩
      · have hke : k = n := by omega
        have HE := hide (show xs = ys by have := HT.out; rwa [hke, take_len HL.out, take_len HL2.out] at this)
        clear hke
        go_wp2
        go_ret
        exact ⟨ret_bool (by symm; rw [decide_eq_true_eq]; exact HE.out), rfl⟩
  · have hb0 : ((n : Int) != (n2 : Int)) = true := by simp; omega
    have HN := hide (show ¬ xs = ys from fun e => hnn (by have := HL.out; have := HL2.out; rw [e] at *; omega))
    clear hnn
    go_enter Tryd.func34, Tryd.ntmps34
    go_wp2
    go_ret
    exact ⟨ret_bool (by symm; rw [decide_eq_false_iff_not]; exact HN.out), rfl⟩

end Go.Proofs.YtbaljgdepicigaaDoor
