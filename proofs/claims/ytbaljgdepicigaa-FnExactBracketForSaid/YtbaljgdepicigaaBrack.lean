/-
  Contracts of the functions on brackets.
-/
import Derived.Laws.ShiftsVar
import Derived.Deep.RegionHeld3
import Derived.Test.YtbaljgdepicigaaBase
import Derived.Test.YtbaljgdepicigaaMathA
import Derived.Test.YtbaljgdepicigaaMathD
import Derived.Test.YtbaljgdepicigaaLib
import Derived.Test.YtbaljgdepicigaaAid
import Derived.Test.YtbaljgdepicigaaGrid
import Derived.Test.YtbaljgdepicigaaLibF
import Derived.Test.YtbaljgdepicigaaMathB
import Derived.Test.YtbaljgdepicigaaMathU
import Derived.Test.YtbaljgdepicigaaSeed
import Derived.Test.YtbaljgdepicigaaTour
import Derived.Test.YtbaljgdepicigaaTourB
namespace Go.Proofs.Ytbaljgdepicigaa
open Go.RowKit
set_option linter.unusedVariables false

-- slices.Max from -1 on
theorem Max3_any (A : Option Addr) (n c : Nat) (xs : List Int) (w : World) (h : Ints w A n c xs) (h0 : 0 < n) (hp : ∀ x ∈ xs, -1 ≤ x) :
    Calls Try.prog 103 #[.slice A n c] w fun e w' => e = .returned (.int .i64 (xs.foldl max (-1))) ∧ w = w' := by
  have hn := h.max
  have hl := h.le
  have HL := hide h.len
  have HP := hide hp; clear hp
  obtain ⟨b, off, x0, rfl, hb, hx0, wx0, hc0⟩ := h.get h0
  have hc0' := hc0
  simp only [Nat.add_zero] at hc0'
  have h01 := HP.out x0 (List.mem_of_getElem? hx0)
  have HX0 := hide hx0; clear hx0 hc0
  go_enter Try.func103, Try.ntmps103
  go_wp2
  go_loop [3, 4] (fun m i => ∃ k : Nat, 1 ≤ k ∧ k ≤ n ∧ i = .int .i64 k ∧ m = .int .i64 ((xs.take k).foldl max (-1))) (fun _ i => n - (intOf i).toNat)
  case atStart => exact ⟨1, by omega, by omega, rfl, by
    rw [show (1 : Nat) = 0 + 1 from rfl, take_snoc_of HX0.out, List.take_zero]
    simp; omega⟩
  case round =>
    obtain ⟨k, hk1, hk, rfl, rfl⟩ := hrel
    clear hc0'
    by_cases hlt : k < n
    · obtain ⟨b', off', x, e, hb', hx, wx, hc⟩ := h.get hlt
      cases e
      have HS : Hid ((xs.take (k + 1)).foldl max (-1) = max ((xs.take k).foldl max (-1)) x) := hide (by rw [take_snoc_of hx, List.foldl_append]; rfl)
      clear hx
      go_wp2
      go_round
      case rel => exact ⟨k + 1, by omega, by omega, by go_num, by rw [HS.out]; exact congrArg _ (by split <;> omega)⟩
      case measure => (simp [intOf] <;> omega)
    · have : k = n := by omega
      subst this
      go_wp2
      go_ret
      exact ⟨ret_int (by rw [take_len HL.out]), rfl⟩
-- spec.BracketOk
theorem shl_nat (a : Nat) (h : a < 8) : wrap64 (2 ^ a) = ((2 ^ a : Nat) : Int) ∧ (2 : Nat) ^ a ≤ 128 := by
  have h1 : (2 : Nat) ^ a ≤ 2 ^ 7 := Nat.pow_le_pow_right (by omega) (by omega)
  have h3 : ((2 ^ a : Nat) : Int) = (2 : Int) ^ a := by simp
  rw [← h3]
  generalize (2 : Nat) ^ a = p at *
  refine ⟨by unfold wrap64; omega, h1⟩
theorem seen_bit {l : List Int} (hl : ∀ x ∈ l, 0 ≤ x ∧ x < 8) (hn : l.Nodup) {b : Nat} (hb : b < 8) : (bits BinOp.and IntKind.i64 ((setN l : Int) / 2 ^ b) 1 == 1) = decide ((b : Int) ∈ l) := by
  obtain ⟨h1, h2⟩ := setN_bits l hl hn
  rw [and_bit2 (by omega) (by omega), Bool.eq_iff_iff, beq_iff_eq, bitAt_iff, h2 b hb]
theorem wrap_seen {l : List Int} {a : Nat} (hl : ∀ x ∈ l, 0 ≤ x ∧ x < 8) (hn : l.Nodup) (ha : a < 8) : wrap64 ((setN l : Int) + wrap64 (2 ^ a)) = (setN (l ++ [(a : Int)]) : Int) := by
  obtain ⟨h1, _⟩ := setN_bits l hl hn
  obtain ⟨h2, h3⟩ := shl_nat a ha
  rw [setN_snoc, h2, Int.toNat_natCast]
  clear h2
  generalize (2 : Nat) ^ a = p at *
  unfold wrap64
  omega

end Go.Proofs.Ytbaljgdepicigaa
