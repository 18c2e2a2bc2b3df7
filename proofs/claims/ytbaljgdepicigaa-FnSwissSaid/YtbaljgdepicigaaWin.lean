/-
  Contracts of the functions that ask who can win a bracket.
-/
import Derived.Laws.ShiftsVar
import Derived.Test.YtbaljgdepicigaaBase
import Derived.Test.YtbaljgdepicigaaMathA
import Derived.Test.YtbaljgdepicigaaMathD
import Derived.Test.YtbaljgdepicigaaLib
import Derived.Test.YtbaljgdepicigaaAid
import Derived.Test.YtbaljgdepicigaaGrid
import Derived.Test.YtbaljgdepicigaaLibF
import Derived.Test.YtbaljgdepicigaaMathB
import Derived.Test.YtbaljgdepicigaaMathU
import Derived.Test.YtbaljgdepicigaaMathW
import Derived.Test.YtbaljgdepicigaaMathZ
import Derived.Test.YtbaljgdepicigaaMathY
import Derived.Test.YtbaljgdepicigaaStep
import Derived.Test.YtbaljgdepicigaaPop
import Derived.Test.YtbaljgdepicigaaSeed
import Derived.Test.YtbaljgdepicigaaTour
import Derived.Test.YtbaljgdepicigaaTourB
namespace Go.Proofs.Ytbaljgdepicigaa
open Go.RowKit
set_option linter.unusedVariables false

-- words
theorem or_i64 (a b : Nat) (ha : a < 9223372036854775808) (hb : b < 9223372036854775808) : bits .or .i64 (a : Int) (b : Int) = ((a ||| b : Nat) : Int) := by
  have hx : a ||| b < 2 ^ 63 := Nat.or_lt_two_pow (by omega) (by omega)
  have h1 : (BitVec.ofInt 64 (a : Int)).toNat = a := by
    rw [BitVec.ofInt_natCast, BitVec.toNat_ofNat]; exact Nat.mod_eq_of_lt (by omega)
  have h2 : (BitVec.ofInt 64 (b : Int)).toNat = b := by
    rw [BitVec.ofInt_natCast, BitVec.toNat_ofNat]; exact Nat.mod_eq_of_lt (by omega)
  show IntKind.i64.wrap ((BitVec.ofInt 64 (a : Int) ||| BitVec.ofInt 64 (b : Int)).toNat : Int) = _
  rw [BitVec.toNat_or, h1, h2, IntKind.wrap_i64]
  omega
theorem andn_bits {a b : Nat} (ha : a < 256) (hb : b < 256) : a &&& (2 ^ 64 - 1 - b) = a &&& (255 - b) := by
  apply Nat.eq_of_testBit_eq
  intro i
  rw [Nat.testBit_and, Nat.testBit_and, show 2 ^ 64 - 1 - b = 2 ^ 64 - (b + 1) by omega, show 255 - b = 2 ^ 8 - (b + 1) by omega, Nat.testBit_two_pow_sub_succ (by omega), Nat.testBit_two_pow_sub_succ (by omega)]
  by_cases hi : i < 8
  · have : i < 64 := by omega
    simp [hi, this]
  · have h2 : a.testBit i = false := Nat.testBit_lt_two_pow (Nat.lt_of_lt_of_le ha (Nat.pow_le_pow_right (n := 2) (i := 8) (by omega) (by omega)))
    simp [h2]
theorem andnot_i64 (a b : Nat) (ha : a < 256) (hb : b < 256) : bits .andNot .i64 (a : Int) (b : Int) = ((a &&& (255 - b) : Nat) : Int) := by
  have h1 : (BitVec.ofInt 64 (a : Int)).toNat = a := by
    rw [BitVec.ofInt_natCast, BitVec.toNat_ofNat]; exact Nat.mod_eq_of_lt (by omega)
  have h2 : (BitVec.ofInt 64 (b : Int)).toNat = b := by
    rw [BitVec.ofInt_natCast, BitVec.toNat_ofNat]; exact Nat.mod_eq_of_lt (by omega)
  show IntKind.i64.wrap ((BitVec.ofInt 64 (a : Int) &&& ~~~ BitVec.ofInt 64 (b : Int)).toNat : Int) = _
  rw [BitVec.toNat_and, BitVec.toNat_not, h1, h2, andn_bits ha hb, IntKind.wrap_i64]
  have : a &&& (255 - b) ≤ a := Nat.and_le_left
  omega
theorem andn_get {a b : Nat} (hb : b < 256) {i : Nat} (hi : i < 8) : (a &&& (255 - b)).testBit i = (a.testBit i && !b.testBit i) := by
  rw [Nat.testBit_and, show 255 - b = 2 ^ 8 - (b + 1) by omega, Nat.testBit_two_pow_sub_succ (by omega)]
  simp [hi]
theorem andn_zero {h m : Nat} (hh : h < 256) (hm : m < 256) : h &&& (255 - m) = 0 ↔ h &&& m = h := by
  constructor
  · intro e
    apply Nat.eq_of_testBit_eq
    intro i
    rw [Nat.testBit_and]
    by_cases hi : i < 8
    · have h2 := andn_get (a := h) hm hi
      rw [e, Nat.zero_testBit] at h2
      cases h3 : h.testBit i <;> cases h4 : m.testBit i <;> simp_all
    · have h2 : h.testBit i = false := Nat.testBit_lt_two_pow (Nat.lt_of_lt_of_le hh (Nat.pow_le_pow_right (n := 2) (i := 8) (by omega) (by omega)))
      simp [h2]
  · intro e
    apply Nat.eq_of_testBit_eq
    intro i
    rw [Nat.zero_testBit]
    by_cases hi : i < 8
    · rw [andn_get hm hi]
      have h2 := congrArg (fun z => z.testBit i) e
      simp only [Nat.testBit_and] at h2
      cases h3 : h.testBit i <;> cases h4 : m.testBit i <;> simp_all
    · rw [Nat.testBit_and]
      have h2 : h.testBit i = false := Nat.testBit_lt_two_pow (Nat.lt_of_lt_of_le hh (Nat.pow_le_pow_right (n := 2) (i := 8) (by omega) (by omega)))
      simp [h2]
/-- What an inner round needs of a player of a part. -/
theorem win_player {xs : List Int} {k h set n : Nat} (hh : h < 256) (hs : h &&& set = h) (hp : pc h = pw2 k) (hset : set < 2 ^ n) (hn : n ≤ 8) {x : Int} (hx : x ∈ mems (win xs k h)) : ∃ a : Nat, x = (a : Int) ∧ a < n ∧ a < 8 := by
  obtain ⟨a, ha, hb, rfl⟩ := mem_mems.1 hx
  refine ⟨a, rfl, ?_, ha⟩
  have h1 := win_sub xs k h hh hp a hb
  have h2 := subB_and hs a h1
  rcases Nat.lt_or_ge a n with h3 | h3
  · exact h3
  · rw [Nat.testBit_lt_two_pow (Nat.lt_of_lt_of_le hset (Nat.pow_le_pow_right (by omega) h3))] at h2
    cases h2
theorem addW_lt {xs : List Int} {two out : Nat} (ho : out < 256) : ∀ l : List Int, (∀ x ∈ l, ∃ a : Nat, x = (a : Int) ∧ a < 8) → addW xs two out l < 256 := by
  intro l hl
  apply Nat.lt_pow_two_of_testBit (n := 8)
  intro i hi
  rw [addW_bits]
  rw [Nat.testBit_lt_two_pow (Nat.lt_of_lt_of_le ho (Nat.pow_le_pow_right (n := 2) (i := 8) (by omega) hi)), Bool.false_or, List.any_eq_false]
  intro x hx
  obtain ⟨a, rfl, ha⟩ := hl x hx
  simp
  intro e; omega
theorem or_shl (out a : Nat) (ho : out < 256) (ha : a < 8) : bits .or .i64 (out : Int) (wrap64 (2 ^ a)) = ((out ||| 2 ^ a : Nat) : Int) := by
  have h1 : (2 : Nat) ^ a ≤ 2 ^ 7 := Nat.pow_le_pow_right (by omega) (by omega)
  have h3 : ((2 ^ a : Nat) : Int) = (2 : Int) ^ a := by simp
  have h4 : wrap64 (2 ^ a) = ((2 ^ a : Nat) : Int) := by
    rw [← h3]; generalize (2 : Nat) ^ a = p at *; unfold wrap64; omega
  rw [h4]
  exact or_i64 _ _ (by omega) (by omega)
theorem pw2_le3 {k : Nat} (h : pw2 k ≤ 8) : k ≤ 3 := by
  rcases Nat.lt_or_ge k 4 with h4 | h4
  · omega
  · have := pw2_mono h4; simp [pw2] at this; omega
theorem wTo_lt {xs : List Int} {k set : Nat} (hs : set < 256) (hp : pc set = pw2 (k + 1)) {h : Nat} (hh : h ≤ set) : wTo xs (win xs k) set (pw2 k) h < 256 :=
  lt_of_sub (n := 8) (wTo_sub hs (fun h hh hpc => win_sub xs k h (by have : h ≤ set := by rw [← hh]; exact Nat.and_le_right
                                                                     omega) hpc) h hh) hs
theorem tourOk_szW {s : Int} {xs : List Int} {n : Nat} (h : tourOk s xs) (hl : xs.length = n) : 1 ≤ n ∧ n ≤ 8 ∧ s ≤ n ∧ n ≤ s := by have := tourOk_size h; omega

end Go.Proofs.Ytbaljgdepicigaa
