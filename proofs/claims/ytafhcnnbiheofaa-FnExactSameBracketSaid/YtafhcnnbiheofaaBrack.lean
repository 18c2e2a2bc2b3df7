/-
  Contracts of the functions on brackets.
-/
import Derived.Laws.ShiftsVar
import Derived.Deep.RegionHeld3
import Derived.Test.YtafhcnnbiheofaaBase
import Derived.Test.YtafhcnnbiheofaaMathA
import Derived.Test.YtafhcnnbiheofaaMathD
import Derived.Test.YtafhcnnbiheofaaLib
import Derived.Test.YtafhcnnbiheofaaAid
import Derived.Test.YtafhcnnbiheofaaGrid
import Derived.Test.YtafhcnnbiheofaaLibF
import Derived.Test.YtafhcnnbiheofaaMathB
import Derived.Test.YtafhcnnbiheofaaMathU
import Derived.Test.YtafhcnnbiheofaaSeed
import Derived.Test.YtafhcnnbiheofaaTour
import Derived.Test.YtafhcnnbiheofaaTourB
namespace Go.Proofs.Ytafhcnnbiheofaa
open Go.RowKit
set_option linter.unusedVariables false

-- spec.BracketOk
theorem shl_nat (a : Nat) (h : a < 8) : wrap64 (2 ^ a) = ((2 ^ a : Nat) : Int) ∧ (2 : Nat) ^ a ≤ 128 := by
  have h1 : (2 : Nat) ^ a ≤ 2 ^ 7 := Nat.pow_le_pow_right (by omega) (by omega)
  have h3 : ((2 ^ a : Nat) : Int) = (2 : Int) ^ a := by simp
  rw [← h3]
  generalize (2 : Nat) ^ a = p at *
  refine ⟨by unfold wrap64; omega, h1⟩
theorem seen_bit {l : List Int} (hl : ∀ x ∈ l, 0 ≤ x ∧ x < 8) (hn : l.Nodup) {b : Nat} (hb : b < 8) : (bits BinOp.and IntKind.i64 ((setN l : Int) / 2 ^ b) 1 == 1) = decide ((b : Int) ∈ l) := by
  obtain ⟨h1, h2⟩ := setN_bits l hl hn
  rw [and_bit2 (by omega) (by omega), Bool.eq_iff_iff, beq_iff_eq, bitAt_iff, h2 b hb]
theorem wrap_seen {l : List Int} {a : Nat} (hl : ∀ x ∈ l, 0 ≤ x ∧ x < 8) (hn : l.Nodup) (ha : a < 8) : wrap64 ((setN l : Int) + wrap64 (2 ^ a)) = (setN (l ++ [(a : Int)]) : Int) := by
  obtain ⟨h1, _⟩ := setN_bits l hl hn
  obtain ⟨h2, h3⟩ := shl_nat a ha
  rw [setN_snoc, h2, Int.toNat_natCast]
  clear h2
  generalize (2 : Nat) ^ a = p at *
  unfold wrap64
  omega

end Go.Proofs.Ytafhcnnbiheofaa
