/-
  Contracts of the functions that ask who is a king, and who is a strong one.
-/
import Derived.Laws.ShiftsVar
import Derived.Test.YtbaljgdepicigaaBase
import Derived.Test.YtbaljgdepicigaaMathA
import Derived.Test.YtbaljgdepicigaaMathD
import Derived.Test.YtbaljgdepicigaaLib
import Derived.Test.YtbaljgdepicigaaAid
import Derived.Test.YtbaljgdepicigaaGrid
import Derived.Test.YtbaljgdepicigaaLibF
import Derived.Test.YtbaljgdepicigaaMathB
import Derived.Test.YtbaljgdepicigaaMathU
import Derived.Test.YtbaljgdepicigaaMathW
import Derived.Test.YtbaljgdepicigaaMathZ
import Derived.Test.YtbaljgdepicigaaMathY
import Derived.Test.YtbaljgdepicigaaStep
import Derived.Test.YtbaljgdepicigaaPop
import Derived.Test.YtbaljgdepicigaaSeed
import Derived.Test.YtbaljgdepicigaaTour
import Derived.Test.YtbaljgdepicigaaTourB
import Derived.Test.YtbaljgdepicigaaWin
import Derived.Test.YtbaljgdepicigaaWinB
import Derived.Test.YtbaljgdepicigaaWinC
namespace Go.Proofs.Ytbaljgdepicigaa
open Go.RowKit
set_option linter.unusedVariables false

-- words
theorem row_member {s : Int} {xs : List Int} {n r : Nat} (ht : tourOk s xs) (hl : xs.length = n) (hr : (r : Int) ∈ xs) {x : Int} (hx : x ∈ mems r) : ∃ a : Nat, x = (a : Int) ∧ a < n ∧ a < 8 := by
  obtain ⟨a, ha, hb, rfl⟩ := mem_mems.1 hx
  refine ⟨a, rfl, ?_, ha⟩
  have h1 := ht.2.2.1 _ hr
  rw [hl] at h1
  have h3 : ((2 ^ n : Nat) : Int) = (2 : Int) ^ n := by simp
  rw [← h3] at h1
  rcases Nat.lt_or_ge a n with h4 | h4
  · exact h4
  · rw [Nat.testBit_lt_two_pow (Nat.lt_of_lt_of_le (show r < 2 ^ n by omega) (Nat.pow_le_pow_right (by omega) h4))] at hb
    cases hb
theorem pc_le8 (m : Nat) : pc m ≤ 8 := by unfold pc; omega
theorem or_lt8 {a b : Nat} (ha : a < 256) (hb : b < 256) : a ||| b < 256 := Nat.or_lt_two_pow (n := 8) ha hb
theorem or_shl1 (out a : Nat) (ho : out < 256) (ha : a < 8) : bits .or .i64 (wrap64 (2 ^ a)) (out : Int) = ((2 ^ a ||| out : Nat) : Int) ∧ 2 ^ a ||| out < 256 := by
  have h1 : (2 : Nat) ^ a ≤ 2 ^ 7 := Nat.pow_le_pow_right (by omega) (by omega)
  have h3 : ((2 ^ a : Nat) : Int) = (2 : Int) ^ a := by simp
  have h4 : wrap64 (2 ^ a) = ((2 ^ a : Nat) : Int) := by
    rw [← h3]; generalize (2 : Nat) ^ a = p at *; unfold wrap64; omega
  rw [h4]
  exact ⟨or_i64 _ _ (by omega) (by omega), or_lt8 (by omega) ho⟩
-- (impl.Tour).score
theorem score_any (s : Int) (A : Option Addr) (n c : Nat) (xs : List Int) (a : Nat) (w : World) (ht : tourOk s xs) (h : Ints w A n c xs) (ha : a < n) :
    Calls Try.prog 142 #[.agg #[.int .i64 s, .slice A n c], .int .i64 (a : Int)] w fun e w' => e = .returned (.int .i64 (pc (rowN xs (a : Int)) : Int)) ∧ Ext w w' := by
  have HX0 := hide (tourOk_row ht)
  obtain ⟨b2, o2, y, hA2, hb2, hy, wy, hc2⟩ := h.get ha
  clear h ht
  subst hA2
  have hyb := HX0.out y (List.mem_of_getElem? hy)
  obtain ⟨r, rfl⟩ : ∃ r : Nat, y = (r : Int) := ⟨y.toNat, by omega⟩
  have HRW := hide (show rowN xs (a : Int) = r by simp [rowN, List.getD, hy])
  have hai : (0 : Int) ≤ (a : Int) := by omega
  have han : (a : Int) < (n : Int) := by omega
  have hr : (0 : Int) ≤ (r : Int) ∧ (r : Int) < 256 := by omega
  have hcW := (Ext.one w (.cells #[.int .i64 s, .slice (some ⟨b2, o2, none⟩) n c] 33)).get hc2
  go_enter Try.func142, Try.ntmps142
  go_wp2_with (go_at_call 187; refine (OnesCount_small r (by omega) _).mono ?_; rintro e w' ⟨rfl, rfl⟩)
  go_ret
  exact ⟨ret_int (by rw [HRW.out]), Ext.one _ _⟩
-- king
def kingOf (s : Int) (xs : List Int) (a : Int) : Prop := tourOk s xs ∧ (0 ≤ a ∧ a ≤ s - 1) ∧ isKing s xs a
instance (s : Int) (xs : List Int) (a : Int) : Decidable (kingOf s xs a) := by unfold kingOf; infer_instance
-- scoreI
theorem scoreI_any (s : Int) (A : Option Addr) (n c : Nat) (xs : List Int) (a : Int) (w : World) (ht : tourOk s xs) (h : Ints w A n c xs) (ha : 0 ≤ a ∧ a ≤ s - 1) :
    Calls Try.prog 142 #[.agg #[.int .i64 s, .slice A n c], .int .i64 a] w fun e w' => e = .returned (.int .i64 (pc (rowN xs a) : Int)) ∧ Ext w w' := by
  have hs := tourOk_szW ht h.len
  obtain ⟨b, rfl⟩ : ∃ b : Nat, a = (b : Int) := ⟨a.toNat, by omega⟩
  exact score_any s A n c xs b w ht h (by omega)

end Go.Proofs.Ytbaljgdepicigaa
