/-
  Contract of the function that compares two lists.
-/
import Derived.Laws.ShiftsVar
import Derived.Deep.RegionHeld3
import Derived.RegionTactic
import Derived.Deep.RegionWith
import Derived.Test.YtafhcnnbiheofaaBase
import Derived.Test.YtafhcnnbiheofaaMathA
import Derived.Test.YtafhcnnbiheofaaMathD
import Derived.Test.YtafhcnnbiheofaaLib
import Derived.Test.YtafhcnnbiheofaaAid
import Derived.Test.YtafhcnnbiheofaaGrid
import Derived.Test.YtafhcnnbiheofaaStep
namespace Go.Proofs.Ytafhcnnbiheofaa
open Go.RowKit
set_option linter.unusedVariables false

-- spec.l04Same
theorem l04Same_any (A : Option Addr) (n c : Nat) (xs : List Int) (A2 : Option Addr) (n2 c2 : Nat) (ys : List Int) (w : World) (h : Ints w A n c xs) (h2 : Ints w A2 n2 c2 ys) :
    Calls Try.prog 50 #[.slice A n c, .slice A2 n2 c2] w fun e w' => e = .returned (.bool (decide (xs = ys))) ∧ w = w' := by
  have HL := hide h.len
  have HL2 := hide h2.len
  have hle := h.le
  have hmx := h.max
  by_cases hnn : n = n2
  · subst hnn
    have hb0 : ((n : Int) != (n : Int)) = false := by simp
    go_enter Try.func50, Try.ntmps50
    go_wp2
    clear hb0
    go_loop [14] (fun i => ∃ k : Nat, k ≤ n ∧ i = .int .i64 k ∧ Hid (xs.take k = ys.take k)) (fun i => n - (intOf i).toNat)
    case atStart => exact ⟨0, Nat.zero_le _, rfl, hide (by simp)⟩
    case round =>
      obtain ⟨k, hk, rfl, HT⟩ := hrel
      by_cases hlt : k < n
      · obtain ⟨b, off, x, rfl, hb, hx, wx, hc⟩ := h.get hlt
        obtain ⟨b', off', y, rfl, hb', hy, wy, hc'⟩ := h2.get hlt
        have HX := hide hx; have HY := hide hy
        clear hx hy
        by_cases hxy : x = y
        · have hb1 : (x != y) = false := by simp [hxy]
          have HS := hide (show xs.take (k + 1) = ys.take (k + 1) by rw [take_snoc_of HX.out, take_snoc_of HY.out, HT.out, hxy])
          clear hxy
          go_wp2
          go_round
          case rel => exact ⟨k + 1, by omega, by go_num, HS⟩
          case measure => (simp [intOf] <;> omega)
        · have hb1 : (x != y) = true := by simpa using hxy
          have HN := hide (show ¬ xs = ys from fun e => hxy (by have := HX.out; rw [e, HY.out] at this; simpa using this.symm))
          clear hxy
          go_wp2
          go_ret
          exact ⟨ret_bool (by symm; rw [decide_eq_false_iff_not]; exact HN.out), rfl⟩
      · have hke : k = n := by omega
        have HE := hide (show xs = ys by have := HT.out; rwa [hke, take_len HL.out, take_len HL2.out] at this)
        clear hke
        go_wp2
        go_ret
        exact ⟨ret_bool (by symm; rw [decide_eq_true_eq]; exact HE.out), rfl⟩
  · have hb0 : ((n : Int) != (n2 : Int)) = true := by simp; omega
    have HN := hide (show ¬ xs = ys from fun e => hnn (by have := HL.out; have := HL2.out; rw [e] at *; omega))
    clear hnn
    go_enter Try.func50, Try.ntmps50
    go_wp2
    go_ret
    exact ⟨ret_bool (by symm; rw [decide_eq_false_iff_not]; exact HN.out), rfl⟩

end Go.Proofs.Ytafhcnnbiheofaa
