/-
  Contracts of the functions that find games on days and free days.
-/
import Derived.Deep.RegionLaw
import Derived.Test.YtbaljgdepicigaaBase
import Derived.Test.YtbaljgdepicigaaMathA
import Derived.Test.YtbaljgdepicigaaMathD
import Derived.Test.YtbaljgdepicigaaLib
import Derived.Test.YtbaljgdepicigaaAid
import Derived.Test.YtbaljgdepicigaaGrid
import Derived.Test.YtbaljgdepicigaaLibF
import Derived.Test.YtbaljgdepicigaaDays
import Derived.Test.YtbaljgdepicigaaMathG
namespace Go.Proofs.Ytbaljgdepicigaa
open Go.RowKit
set_option linter.unusedVariables false

-- gameOn both impl.gameOn
theorem iGameOn_any (A : Option Addr) (n c : Nat) (rows : List (List Int)) (A2 : Option Addr) (n2 c2 : Nat) (days : List Int) (s : Nat) (t d : Int) (w : World) (h : Grid w A n c rows) (h2 : Ints w A2 n2 c2 days) (hr : ∀ r ∈ rows, r.length = 2) (hs : s < 2) (hn : n2 ≤ n) (hn18 : n2 ≤ 18) :
    Calls Try.prog 102 #[.slice A n c, .slice A2 n2 c2, .int .i64 (s : Int), .int .i64 t, .int .i64 d] w fun e w' => e = .returned (.int .i64 (fnd rows days s t d)) ∧ w = w' := by
  have HI := hide h
  have HI2 := hide h2
  have HL2 := hide h2.len
  have HR := hide hr
  clear h h2 hr
  go_enter Try.func102, Try.ntmps102
  go_wp2
  go_loop [15] (fun i => ∃ k : Nat, k ≤ n2 ∧ i = .int .i64 (k : Int) ∧ Hid (∀ j, j < k → plays rows days s t d j = false)) (fun i => n2 - (intOf i).toNat)
  case atStart => exact ⟨0, Nat.zero_le _, rfl, hide (fun j hj => absurd hj (Nat.not_lt_zero _))⟩
  case round =>
    obtain ⟨k, hk, rfl, HV⟩ := hrel
    by_cases hlt : k < n2
    · obtain ⟨b, off, x, rfl, hbl, hx, wx, hc⟩ := HI2.out.get hlt
      obtain ⟨b', off', B, d', r, rfl, hbl', hr, hc', hi⟩ := HI.out.get (k := k) (by omega)
      have hr2 := HR.out r (List.mem_of_getElem? hr)
      rw [hr2] at hi hc'
      obtain ⟨b3, o3, y, rfl, hb3, hy, wy, hcy⟩ := hi.get hs
      have HP := hide (plays_getD (s := s) (t := t) (d := d) hx hr)
      have hg : r.getD s 0 = y := by simp [List.getD, hy]
      rw [hg] at HP
      have hkn : k < n := by omega
      have hkni : (k : Int) < (n : Int) := by omega
      have hsi : (s : Int) < 2 := by omega
      clear hx hr hi hy hg hr2
      by_cases e1 : x = d
      · have hb1 : (x == d) = true := by simpa using e1
        by_cases e2 : y = t
        · have hb2 : (y == t) = true := by simpa using e2
          have HF := hide (show fnd rows days s t d = (k : Int) from firstN_hit (by rw [HL2.out]; exact hlt) HV.out (by rw [HP.out]; exact decide_eq_true ⟨e1, e2⟩))
          clear e1 e2
          go_wp2
          go_ret
          exact ⟨ret_int HF.out.symm, rfl⟩
        · have hb2 : (y == t) = false := by simpa using e2
          have HPF := hide (show plays rows days s t d k = false by rw [HP.out]; exact decide_eq_false fun hh => e2 hh.2)
          clear e1 e2
          go_wp2
          go_round
          case rel => exact ⟨k + 1, by omega, by go_num, hide (fun j hj => by rcases Nat.lt_or_ge j k with h | h; exact HV.out j h; obtain rfl : j = k := (by omega); exact HPF.out)⟩
          case measure => (simp [intOf] <;> omega)
      · have hb1 : (x == d) = false := by simpa using e1
        have HPF := hide (show plays rows days s t d k = false by rw [HP.out]; exact decide_eq_false fun hh => e1 hh.1)
        clear e1
        go_wp2
        go_round
        case rel => exact ⟨k + 1, by omega, by go_num, hide (fun j hj => by rcases Nat.lt_or_ge j k with h | h; exact HV.out j h; obtain rfl : j = k := (by omega); exact HPF.out)⟩
        case measure => (simp [intOf] <;> omega)
    · have hke : k = n2 := by omega
      subst hke
      have HF := hide (show fnd rows days s t d = -1 from firstN_miss (by rw [HL2.out]; exact HV.out))
      go_wp2
      go_ret
      exact ⟨ret_int HF.out.symm, rfl⟩
-- freeDay both impl.freeDay
theorem iFree_any (A : Option Addr) (n c : Nat) (rows : List (List Int)) (A2 : Option Addr) (n2 c2 : Nat) (days : List Int) (s : Nat) (t : Int) (w : World) (h : Grid w A n c rows) (h2 : Ints w A2 n2 c2 days) (hr : ∀ r ∈ rows, r.length = 2) (hs : s < 2) (hn : n2 ≤ n) (hn18 : n2 ≤ 18) :
    Calls Try.prog 101 #[.slice A n c, .slice A2 n2 c2, .int .i64 (s : Int), .int .i64 t] w fun e w' => e = .returned (.int .i64 (fre rows days s t)) ∧ w = w' := by
  have HL2 := hide h2.len
  have CG := hide (fun (d : Int) => iGameOn_any A n c rows A2 n2 c2 days s t d w h h2 hr hs hn hn18)
  obtain ⟨D, hD, hDl, hD0, hD1⟩ := fre_ok rows days s t
  have HD := hide hD
  have HD0 := hide hD0
  have HD1 := hide hD1
  have hD18 : D ≤ 18 := by have := hasG_le rows days.length s t; have := HL2.out; omega
  clear h h2 hr hD hD0 hD1 hDl
  go_enter Try.func101, Try.ntmps101
  go_wp2
  go_loop [9] (fun i => ∃ k : Nat, k ≤ D ∧ i = .int .i64 (k : Int)) (fun i => D - (intOf i).toNat)
  case atStart => exact ⟨0, Nat.zero_le _, rfl⟩
  case round =>
    obtain ⟨k, hk, rfl⟩ := hrel
    by_cases hlt : k < D
    · have hge := HD1.out k hlt
      have hC := CG.out (k : Int)
      generalize fnd rows days s t (k : Int) = F at *
      have HC := hide hC
      clear hC
      go_wp2_with (go_at_call 102; refine HC.out.mono ?_; rintro e w' ⟨rfl, rfl⟩)
      go_round
      case rel => exact ⟨k + 1, by omega, by go_num⟩
      case measure => (simp [intOf] <;> omega)
    · have hke : k = D := by omega
      subst hke
      have hge := HD0.out
      have hC := CG.out (k : Int)
      generalize fnd rows days s t (k : Int) = F at *
      have HC := hide hC
      clear hC
      have hge2 : ¬ 0 ≤ F := by omega
      go_wp2_with (go_at_call 102; refine HC.out.mono ?_; rintro e w' ⟨rfl, rfl⟩)
      go_ret
      exact ⟨ret_int HD.out.symm, rfl⟩

end Go.Proofs.Ytbaljgdepicigaa
