/-
  Plain lemmas on Swiss rounds: no program.
-/
import Derived.Test.YtbaljgdepicigaaBase
import Derived.Test.YtbaljgdepicigaaMathA
import Derived.Test.YtbaljgdepicigaaMathD
import Derived.Test.YtbaljgdepicigaaMathB
import Derived.Test.YtbaljgdepicigaaMathU
namespace Go.Proofs.Ytbaljgdepicigaa
open Go.RowKit
set_option linter.unusedVariables false

/-- Points of 2, 4, 6 or 8 players. -/
def isSwiss (xs : List Int) : Prop := (2 ≤ xs.length ∧ xs.length ≤ 8) ∧ xs.length % 2 = 0 ∧ ∀ x ∈ xs, 0 ≤ x ∧ x ≤ 100
instance (xs : List Int) : Decidable (isSwiss xs) := by unfold isSwiss; infer_instance
/-- Who has met whom. -/
def swissOk (xs ms : List Int) : Prop :=
  isSwiss xs ∧ ms.length = xs.length ∧ (∀ m ∈ ms, 0 ≤ m ∧ m ≤ 2 ^ ms.length - 1) ∧ ∀ a, a < ms.length → ¬ bitAt (ms.getD a 0) a = 1 ∧ ∀ b, b < a → bitAt (ms.getD a 0) b = bitAt (ms.getD b 0) a
instance (xs ms : List Int) : Decidable (swissOk xs ms) := by unfold swissOk; infer_instance
/-- Each has an opponent, whose opponent it is. -/
def pairsOk (n : Nat) (ps : List Int) : Prop :=
  ps.length = n ∧ ∀ a, a < ps.length → (0 ≤ ps.getD a 0 ∧ ps.getD a 0 ≤ (n : Int) - 1) ∧ ¬ ps.getD a 0 = (a : Int) ∧ ps.getD (ps.getD a 0).toNat 0 = (a : Int)
instance (n : Nat) (ps : List Int) : Decidable (pairsOk n ps) := by unfold pairsOk; infer_instance
def pairsTo (ps : List Int) (k : Nat) : Prop := ∀ a, a < k → ¬ ps.getD a 0 = (a : Int) ∧ ps.getD (ps.getD a 0).toNat 0 = (a : Int)
theorem pairsTo_succ {ps : List Int} {k j : Nat} (h : pairsTo ps k) (hx : ps[k]? = some (j : Int)) (hy : ps[j]? = some (k : Int)) (hne : ¬ (k : Int) = (j : Int)) : pairsTo ps (k + 1) := by
  intro a ha
  by_cases e : a = k
  · subst e
    simp only [List.getD, hx, Option.getD_some, Int.toNat_natCast, hy]
    exact ⟨fun e => hne e.symm, trivial⟩
  · exact h a (by omega)
theorem pairsTo_done {ps : List Int} {n : Nat} (h : pairsTo ps n) (hl : ps.length = n) (ha : ∀ x ∈ ps, 0 ≤ x ∧ x ≤ (n : Int) - 1) : pairsOk n ps := by
  refine ⟨hl, fun a hal => ⟨ha _ ?_, h a (by omega)⟩⟩
  rw [List.getD, List.getElem?_eq_getElem hal]
  exact List.getElem_mem _
theorem pairsOk_all {ps : List Int} {n : Nat} (h : pairsOk n ps) : ∀ x ∈ ps, 0 ≤ x ∧ x ≤ (n : Int) - 1 := by
  intro x hx
  obtain ⟨a, ha, rfl⟩ := List.getElem_of_mem hx
  have h1 := (h.2 a ha).1
  rwa [List.getD, List.getElem?_eq_getElem ha] at h1

/-! ### Sums -/
def sumTo (f : Nat → Int) : Nat → Int
  | 0 => 0
  | n + 1 => sumTo f n + f n
theorem sumTo_congr {f g : Nat → Int} {n : Nat} (h : ∀ i, i < n → f i = g i) : sumTo f n = sumTo g n := by
  induction n with
  | zero => rfl
  | succ n ih => simp only [sumTo]; rw [ih fun i hi => h i (by omega), h n (by omega)]
theorem sumTo_add (f g : Nat → Int) (n : Nat) : sumTo (fun i => f i + g i) n = sumTo f n + sumTo g n := by
  induction n with
  | zero => rfl
  | succ n ih => simp only [sumTo, ih]; omega
theorem sumTo_zero {f : Nat → Int} {n : Nat} (h : ∀ i, i < n → f i = 0) : sumTo f n = 0 := by
  induction n with
  | zero => rfl
  | succ n ih => simp only [sumTo]; rw [ih fun i hi => h i (by omega), h n (by omega)]; rfl
theorem sumTo_single {f : Nat → Int} {n j : Nat} (hj : j < n) (h : ∀ i, i < n → i ≠ j → f i = 0) : sumTo f n = f j := by
  induction n with
  | zero => omega
  | succ n ih =>
    simp only [sumTo]
    by_cases e : j = n
    · subst e
      rw [sumTo_zero fun i hi => h i (by omega) (by omega)]; omega
    · rw [ih (by omega) fun i hi hn => h i (by omega) hn, h n (by omega) (by omega)]; omega
theorem sumTo_swap (g : Nat → Nat → Int) (n m : Nat) : sumTo (fun a => sumTo (g a) m) n = sumTo (fun b => sumTo (fun a => g a b) n) m := by
  induction n with
  | zero => simp only [sumTo]; exact (sumTo_zero fun i _ => rfl).symm
  | succ n ih => simp only [sumTo]; rw [ih, ← sumTo_add]
/-- Over pairs: the sum over all is the sum over the lower ones of both. -/
theorem sumTo_pairs (f : Nat → Int) (p : Nat → Nat) (n : Nat) (h1 : ∀ a, a < n → p a < n) (h2 : ∀ a, a < n → p (p a) = a) (h3 : ∀ a, a < n → p a ≠ a) :
    sumTo f n = sumTo (fun a => if a < p a then f a + f (p a) else 0) n := by
  have e1 : sumTo f n = sumTo (fun a => (if a < p a then f a else 0) + (if p a < a then f a else 0)) n := sumTo_congr fun a ha => by
    have := h3 a ha
    by_cases e : a < p a
    · rw [if_pos e, if_neg (by omega)]; omega
    · rw [if_neg e, if_pos (by omega)]; omega
  have e2 : sumTo (fun b => if p b < b then f b else 0) n = sumTo (fun b => sumTo (fun a => if p a = b ∧ a < b then f b else 0) n) n := sumTo_congr fun b hb => by
    rw [sumTo_single (h1 b hb)]
    · rw [h2 b hb]
      by_cases e : p b < b <;> simp [e]
    · intro a ha hne
      rw [if_neg]
      rintro ⟨e, _⟩
      exact hne (by rw [← e, h2 a ha])
  have e3 : sumTo (fun a => sumTo (fun b => if p a = b ∧ a < b then f b else 0) n) n = sumTo (fun a => if a < p a then f (p a) else 0) n := sumTo_congr fun a ha => by
    rw [sumTo_single (h1 a ha)]
    · simp
    · intro b hb hne
      rw [if_neg]
      rintro ⟨e, _⟩
      exact hne e.symm
  rw [e1, sumTo_add, e2, ← sumTo_swap (fun a b => if p a = b ∧ a < b then f b else 0), e3, ← sumTo_add]
  exact sumTo_congr fun a ha => by by_cases e : a < p a <;> simp [e]

def pt (xs : List Int) (a : Nat) : Int := xs.getD a 0
def opp (ps : List Int) (a : Nat) : Nat := (ps.getD a 0).toNat
def drop1 (xs ps : List Int) (a : Nat) : Int := max 0 (pt xs a - pt xs (opp ps a))
def gap1 (xs ps : List Int) (a : Nat) : Int := if a < opp ps a then max (pt xs a - pt xs (opp ps a)) (pt xs (opp ps a) - pt xs a) else 0
theorem float_same {xs ps : List Int} {n : Nat} (h : pairsOk n ps) : sumTo (drop1 xs ps) n = sumTo (gap1 xs ps) n := by
  have hp : ∀ a, a < n → opp ps a < n ∧ opp ps (opp ps a) = a ∧ opp ps a ≠ a := fun a ha => by
    obtain ⟨h1, h2, h3⟩ := h.2 a (by rw [h.1]; exact ha)
    unfold opp
    exact ⟨by omega, by rw [h3]; simp, by omega⟩
  rw [sumTo_pairs (drop1 xs ps) (opp ps) n (fun a ha => (hp a ha).1) (fun a ha => (hp a ha).2.1) (fun a ha => (hp a ha).2.2)]
  refine sumTo_congr fun a ha => ?_
  simp only [drop1, gap1, (hp a ha).2.1]
  split
  · omega
  · rfl
theorem drop1_bound {xs ps : List Int} {n k : Nat} (hx : ∀ x ∈ xs, 0 ≤ x ∧ x ≤ 100) : 0 ≤ sumTo (drop1 xs ps) k ∧ sumTo (drop1 xs ps) k ≤ 100 * k := by
  have hb : ∀ a, 0 ≤ pt xs a ∧ pt xs a ≤ 100 := fun a => by
    unfold pt
    rw [List.getD]
    cases h : xs[a]? with
    | none => simp
    | some x => exact hx x (List.mem_of_getElem? h)
  induction k with
  | zero => simp [sumTo]
  | succ k ih =>
    have h1 := hb k
    have h2 := hb (opp ps k)
    simp only [sumTo, drop1]
    omega
theorem gap1_bound {xs ps : List Int} {k : Nat} (hx : ∀ x ∈ xs, 0 ≤ x ∧ x ≤ 100) : 0 ≤ sumTo (gap1 xs ps) k ∧ sumTo (gap1 xs ps) k ≤ 100 * k := by
  have hb : ∀ a, 0 ≤ pt xs a ∧ pt xs a ≤ 100 := fun a => by
    unfold pt
    rw [List.getD]
    cases h : xs[a]? with
    | none => simp
    | some x => exact hx x (List.mem_of_getElem? h)
  induction k with
  | zero => simp [sumTo]
  | succ k ih =>
    have h1 := hb k
    have h2 := hb (opp ps k)
    simp only [sumTo, gap1]
    split <;> omega
def floatOf (xs ps : List Int) : Int := if isSwiss xs ∧ pairsOk xs.length ps then sumTo (drop1 xs ps) xs.length else -1
theorem drop1_get {xs ps : List Int} {a j : Nat} {x y : Int} (hx : xs[a]? = some x) (hp : ps[a]? = some (j : Int)) (hy : xs[j]? = some y) : drop1 xs ps a = max 0 (x - y) := by
  simp [drop1, pt, opp, List.getD, hx, hp, hy]
theorem gap1_get {xs ps : List Int} {a j : Nat} {x y : Int} (hx : xs[a]? = some x) (hp : ps[a]? = some (j : Int)) (hy : xs[j]? = some y) : gap1 xs ps a = if a < j then max (x - y) (y - x) else 0 := by
  simp [gap1, pt, opp, List.getD, hx, hp, hy]
/-- A pairing in which nobody meets again. -/
def isPairing (xs ms ps : List Int) : Prop := swissOk xs ms ∧ pairsOk xs.length ps ∧ ∀ a, a < ps.length → ¬ bitAt (ms.getD a 0) (ps.getD a 0).toNat = 1
instance (xs ms ps : List Int) : Decidable (isPairing xs ms ps) := by unfold isPairing; infer_instance
def swissTo (ms : List Int) (k : Nat) : Prop := ∀ a, a < k → ¬ bitAt (ms.getD a 0) a = 1 ∧ ∀ b, b < a → bitAt (ms.getD a 0) b = bitAt (ms.getD b 0) a
theorem pow_pos' (n : Nat) : (1 : Int) ≤ 2 ^ n := by
  have h2 : 0 < (2 : Nat) ^ n := Nat.pow_pos (by omega)
  have h3 : ((2 ^ n : Nat) : Int) = (2 : Int) ^ n := by simp
  omega
theorem shr_bound {m : Int} (h0 : 0 ≤ m) (a : Nat) : 0 ≤ m / 2 ^ a ∧ m / 2 ^ a ≤ m := by
  have := pow_pos' a
  exact ⟨Int.ediv_nonneg h0 (by omega), Int.ediv_le_self _ h0⟩
theorem and_bit {m : Int} (h0 : 0 ≤ m) (h1 : m ≤ 9223372036854775807) (a : Nat) : bits BinOp.and IntKind.i64 (m / 2 ^ a) 1 = bitAt m a := by
  have := shr_bound h0 a
  exact and_one_i64 _ this.1 (by omega)
theorem swissTo_succ {ms : List Int} {a : Nat} (h : swissTo ms a) (h1 : ¬ bitAt (ms.getD a 0) a = 1) (h2 : ∀ b, b < a → bitAt (ms.getD a 0) b = bitAt (ms.getD b 0) a) : swissTo ms (a + 1) := by
  intro a' ha'
  by_cases e : a' = a
  · subst e; exact ⟨h1, h2⟩
  · exact h a' (by omega)
theorem swiss_not {xs ms : List Int} {a b n : Nat} {m y : Int} (hl : ms.length = n) (ha : a < n) (hb : b < n) (hm : ms[a]? = some m) (hy : ms[b]? = some y) (hne : ¬ bitAt m b = bitAt y a) : ¬ swissOk xs ms := by
  intro hs
  have g1 : ms.getD a 0 = m := by simp [List.getD, hm]
  have g2 : ms.getD b 0 = y := by simp [List.getD, hy]
  rcases Nat.lt_trichotomy b a with h | h | h
  · have := (hs.2.2.2 a (by omega)).2 b h
    rw [g1, g2] at this
    exact hne this
  · subst h
    rw [hm] at hy
    cases hy
    exact hne rfl
  · have := (hs.2.2.2 b (by omega)).2 a h
    rw [g1, g2] at this
    exact hne this.symm
theorem pow_small {n : Nat} (h : n ≤ 8) : (1 : Int) ≤ 2 ^ n ∧ (2 : Int) ^ n ≤ 256 := by
  have h1 : (2 : Nat) ^ n ≤ 2 ^ 8 := Nat.pow_le_pow_right (by omega) h
  have h2 : 0 < (2 : Nat) ^ n := Nat.pow_pos (by omega)
  have h3 : ((2 ^ n : Nat) : Int) = (2 : Int) ^ n := by simp
  omega
theorem wrap_pow {n : Nat} (h : n ≤ 8) : wrap64 (2 ^ n) = 2 ^ n ∧ wrap64 ((2 : Int) ^ n - 1) = 2 ^ n - 1 := by
  have := pow_small h
  constructor <;> (unfold wrap64; omega)

end Go.Proofs.Ytbaljgdepicigaa
