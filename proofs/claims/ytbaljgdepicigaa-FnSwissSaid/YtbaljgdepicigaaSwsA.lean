/-
  Contracts of the small functions of the law on Swiss rounds.
-/
import Derived.Laws.ShiftsVar
import Derived.Test.YtbaljgdepicigaaBase
import Derived.Test.YtbaljgdepicigaaMathA
import Derived.Test.YtbaljgdepicigaaMathD
import Derived.Test.YtbaljgdepicigaaLib
import Derived.Test.YtbaljgdepicigaaAid
import Derived.Test.YtbaljgdepicigaaStep
import Derived.Test.YtbaljgdepicigaaGrid
import Derived.Test.YtbaljgdepicigaaLibF
import Derived.Test.YtbaljgdepicigaaMathB
import Derived.Test.YtbaljgdepicigaaMathU
import Derived.Test.YtbaljgdepicigaaMathW
import Derived.Test.YtbaljgdepicigaaMathZ
import Derived.Test.YtbaljgdepicigaaMathY
import Derived.Test.YtbaljgdepicigaaMathG
import Derived.Test.YtbaljgdepicigaaMathQ
import Derived.Test.YtbaljgdepicigaaMathX
import Derived.Test.YtbaljgdepicigaaMathF
import Derived.Test.YtbaljgdepicigaaSeed
import Derived.Test.YtbaljgdepicigaaTour
import Derived.Test.YtbaljgdepicigaaTourB
import Derived.Test.YtbaljgdepicigaaCurA
import Derived.Test.YtbaljgdepicigaaDrwA
import Derived.Test.YtbaljgdepicigaaDrwB
namespace Go.Proofs.Ytbaljgdepicigaa
open Go.RowKit
set_option linter.unusedVariables false

-- laws.sum
theorem lsum_any (A : Option Addr) (n c : Nat) (xs : List Int) (w : World) (h : Ints w A n c xs) (hn : n ≤ 1048576) (hb : ∀ x ∈ xs, 0 ≤ x ∧ x ≤ 1048576) :
    Calls Try.prog 24 #[.slice A n c] w fun e w' => e = .returned (.int .i64 xs.sum) ∧ w = w' := by
  have HI := hide h
  have HL := hide h.len
  have HB := hide hb
  have hle := h.le
  have hmx := h.max
  clear h hb
  go_enter Try.func24, Try.ntmps24
  go_wp2
  go_loopw [3, 8] (fun s i wr => ∃ j : Nat, j ≤ n ∧ i = .int .i64 (j : Int) ∧ s = .int .i64 (xs.take j).sum ∧ Hid (0 ≤ (xs.take j).sum ∧ (xs.take j).sum ≤ (j : Int) * 1048576) ∧ w = wr) (fun _ i _ => n - (intOf i).toNat)
  case atStart => exact ⟨0, Nat.zero_le _, rfl, rfl, hide (by simp), rfl⟩
  case round =>
    obtain ⟨j, hj, rfl, rfl, HS, rfl⟩ := hrel
    by_cases hlt : j < n
    · have hji : (j : Int) < (n : Int) := by omega
      obtain ⟨b, o, x, rfl, hbl, hx, wx, hc⟩ := HI.out.get hlt
      have hxb := HB.out x (List.mem_of_getElem? hx)
      have HT := hide (show (xs.take (j + 1)).sum = (xs.take j).sum + x by rw [take_snoc_of hx]; simp)
      have hs := HS.out
      generalize (xs.take j).sum = s at *
      have HN := hide (show 0 ≤ s + x ∧ s + x ≤ ((j + 1 : Nat) : Int) * 1048576 by omega)
      clear hx
      go_wp2
      go_roundw
      case rel => exact ⟨j + 1, by omega, by go_num, by rw [HT.out], hide (by rw [HT.out]; exact HN.out), trivial⟩
      case measure => (simp [intOf] <;> omega)
    · have hk : (xs.take j).sum = xs.sum := by rw [List.take_of_length_le (by have := HL.out; omega)]
      rw [hk]
      go_wp2
      go_ret
      exact ⟨rfl, rfl⟩
-- spec.l01Pick
theorem l01Pick_any (w0 w : World) (p : Nat) (A : Option Addr) (n c : Nat) (xs : List Int) (h : Cur w0 w p) (hx : Ints w A n c xs) (hp : ∀ k, A.map (·.block) = some k → k ≠ p) (h1 : 1 ≤ n) (h2 : n ≤ 256) :
    Calls Try.prog 148 #[.pointer (some ⟨p, 0, none⟩), .slice A n c] w fun e w' => ∃ x ∈ xs, e = .returned (.int .i64 x) ∧ Cur w0 w' p ∧ w.grownBy w' (some p) := by
  have C := hide (l01Below_any w0 w p n h h1 h2)
  have HX := hide hx
  have HP := hide hp
  clear h hx hp
  go_enter Try.func148, Try.ntmps148
  go_wp2_with fail
  refine C.out.mono ?_
  rintro e w1 ⟨k, rfl, hk, hC, hg⟩
  obtain ⟨b, o, x, rfl, hbl, hxk, wx, hc⟩ := HX.out.get hk
  have hc1 := (World.cell?_of_block (w := w) (a := ⟨b, o + k, none⟩) (hg.block b hbl (fun e => HP.out b rfl (Option.some.inj e)))).trans hc
  have hki : (k : Int) < (n : Int) := by omega
  have HM := hide (List.mem_of_getElem? hxk)
  have HC := hide hC
  have HG := hide hg
  clear hxk hC hg hc
  go_wp2
  go_ret
  exact ⟨x, HM.out, rfl, HC.out, HG.out⟩

end Go.Proofs.Ytbaljgdepicigaa
