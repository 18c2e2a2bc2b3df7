/-
  Plain lemmas on monotone tours, brackets that are the same, and the sizes of sets: no program.
-/
import Derived.Test.YtbaljgdepicigaaBase
import Derived.Test.YtbaljgdepicigaaMathA
import Derived.Test.YtbaljgdepicigaaMathD
import Derived.Test.YtbaljgdepicigaaMathB
import Derived.Test.YtbaljgdepicigaaMathU
namespace Go.Proofs.Ytbaljgdepicigaa
set_option linter.unusedVariables false

/-! ### Tours in which each beats those behind -/
def isMono (s : Int) (xs : List Int) : Prop := tourOk s xs ∧ ∀ a, a < xs.length → ∀ b, b < xs.length → a < b → bts xs a b
instance (s : Int) (xs : List Int) : Decidable (isMono s xs) := by unfold isMono; infer_instance
/-- The set of those from lo to hi - 1. -/
def upN (lo : Nat) : Nat → Nat
  | 0 => 0
  | k + 1 => upN lo k + 2 ^ (lo + k)
def monoRow (n a : Nat) : Nat := upN (a + 1) (n - (a + 1))
def mono (n : Nat) : List Int := (List.range n).map fun (a : Nat) => (monoRow n a : Int)
theorem mono_len (n : Nat) : (mono n).length = n := by simp [mono]
theorem mono_get {n a : Nat} (h : a < n) : (mono n)[a]? = some (monoRow n a : Int) := by simp [mono, h]
theorem mono_bits : ∀ n : Nat, n < 9 → ∀ a : Nat, a < n → monoRow n a < 2 ^ n ∧ ∀ b : Nat, b < n → (monoRow n a).testBit b = decide (a < b) := by decide +kernel
theorem eq_of_bits {n m k : Nat} (hm : m < 2 ^ n) (hk : k < 2 ^ n) (h : ∀ b, b < n → m.testBit b = k.testBit b) : m = k := by
  apply Nat.eq_of_testBit_eq
  intro i
  by_cases hi : i < n
  · exact h i hi
  · have h2 : 2 ^ n ≤ 2 ^ i := Nat.pow_le_pow_right (by omega) (by omega)
    rw [Nat.testBit_lt_two_pow (by omega), Nat.testBit_lt_two_pow (by omega)]
theorem row_nat {s : Int} {xs : List Int} (h : tourOk s xs) {a : Nat} (ha : a < xs.length) : ∃ m : Nat, xs[a]? = some (m : Int) ∧ m < 2 ^ xs.length := by
  have hx := h.2.2.1 xs[a] (List.getElem_mem ha)
  have h3 : ((2 ^ xs.length : Nat) : Int) = (2 : Int) ^ xs.length := by simp
  refine ⟨xs[a].toNat, ?_, ?_⟩
  · rw [List.getElem?_eq_getElem ha, Int.toNat_of_nonneg hx.1]
  · omega
theorem bts_nat {xs : List Int} {a b m : Nat} (h : xs[a]? = some (m : Int)) : bts xs a b ↔ m.testBit b = true := by
  unfold bts; rw [List.getD, h]; exact bitAt_iff m b
theorem isMono_iff {s : Int} {xs : List Int} (h : tourOk s xs) : isMono s xs ↔ xs = mono xs.length := by
  have h8 := tourOk_size h
  constructor
  · rintro ⟨_, hm⟩
    apply List.ext_getElem?
    intro a
    by_cases ha : a < xs.length
    · obtain ⟨m, hx, hlt⟩ := row_nat h ha
      rw [mono_get ha, hx]
      obtain ⟨hb1, hb2⟩ := mono_bits xs.length (by omega) a ha
      have : m = monoRow xs.length a := by
        refine eq_of_bits hlt hb1 fun b hb => ?_
        rw [hb2 b hb, Bool.eq_iff_iff, ← bts_nat hx, decide_eq_true_eq]
        constructor
        · intro hab
          rcases Nat.lt_trichotomy a b with e | e | e
          · exact e
          · subst e; exact absurd hab (bts_self h ha)
          · exact absurd hab ((bts_anti h hb ha (by omega)).1 (hm b hb a ha e))
        · exact hm a ha b hb
      rw [this]
    · rw [List.getElem?_eq_none (by omega), List.getElem?_eq_none (by rw [mono_len]; omega)]
  · intro he
    refine ⟨h, fun a ha b hb hab => ?_⟩
    have hx : xs[a]? = some (monoRow xs.length a : Int) := by
      have := mono_get ha
      rw [← he] at this
      exact this
    rw [bts_nat hx, (mono_bits xs.length (by omega) a ha).2 b hb]
    simpa using hab
/-- The pairs before row a. -/
def prs (n : Nat) : Nat → Nat
  | 0 => 0
  | a + 1 => prs n a + (n - (a + 1))
theorem prs_lt : ∀ n : Nat, n < 9 → ∀ a : Nat, a < n → ∀ b : Nat, b < n → a < b → prs n a + (b - (a + 1)) < 28 := by decide
/-- So many bits of 28 are left. -/
def ones (j : Nat) : Nat := 2 ^ (28 - j) - 1
theorem ones_step : ∀ j : Nat, j < 28 → ones j % 2 = 1 ∧ ones j / 2 = ones (j + 1) := by decide
theorem ones_le (j : Nat) : ones j ≤ 268435455 := by
  unfold ones
  have : 2 ^ (28 - j) ≤ 2 ^ 28 := Nat.pow_le_pow_right (by omega) (by omega)
  omega
theorem upN_lt (lo k : Nat) (h : lo + k ≤ 8) : upN lo k < 256 := by
  have key : ∀ lo : Nat, lo < 9 → ∀ k : Nat, k < 9 → lo + k ≤ 8 → upN lo k < 256 := by decide
  exact key lo (by omega) k (by omega) h

/-! ### Sizes of sets -/
/-- How many bits are set, below 8. -/
def pc (m : Nat) : Nat := (m % 2) + (m / 2 % 2) + (m / 4 % 2) + (m / 8 % 2) + (m / 16 % 2) + (m / 32 % 2) + (m / 64 % 2) + (m / 128 % 2)
def orN : List Int → Nat
  | [] => 0
  | x :: r => orN r ||| 2 ^ x.toNat
theorem or_comm3 (a b c : Nat) : a ||| b ||| c = a ||| c ||| b := by rw [Nat.or_assoc, Nat.or_comm b c, ← Nat.or_assoc]
theorem orN_snoc (l : List Int) (x : Int) : orN (l ++ [x]) = orN l ||| 2 ^ x.toNat := by
  induction l with
  | nil => rfl
  | cons y r ih => simp only [List.cons_append, orN, ih]; rw [or_comm3]
theorem or_bit : ∀ m : Nat, m < 256 → ∀ a : Nat, a < 8 → (m ||| 2 ^ a) < 256 ∧ pc (m ||| 2 ^ a) = pc m + (if m.testBit a then 0 else 1) := by decide +kernel
theorem or_bit_get : ∀ m : Nat, m < 256 → ∀ a : Nat, a < 8 → ∀ b : Nat, b < 8 → (m ||| 2 ^ a).testBit b = (m.testBit b || a == b) := by decide +kernel
theorem orN_bits (l : List Int) (hl : ∀ x ∈ l, 0 ≤ x ∧ x < 8) : orN l < 256 ∧ ∀ b : Nat, b < 8 → (orN l).testBit b = decide ((b : Int) ∈ l) := by
  induction l with
  | nil => simp [orN]
  | cons x r ih =>
    have hx := hl x (by simp)
    have ⟨h1, h2⟩ := ih (fun y hy => hl y (by simp [hy]))
    refine ⟨(or_bit _ h1 _ (by omega)).1, fun b hb => ?_⟩
    simp only [orN]
    rw [or_bit_get _ h1 _ (by omega) b hb, h2 b hb]
    have e : (x.toNat == b) = decide ((b : Int) = x) := by rw [Bool.eq_iff_iff]; simp; omega
    rw [e]
    by_cases e1 : (b : Int) = x <;> by_cases e2 : (b : Int) ∈ r <;> simp [e1, e2]
theorem orN_pc (l : List Int) (hl : ∀ x ∈ l, 0 ≤ x ∧ x < 8) : pc (orN l) ≤ l.length ∧ (pc (orN l) = l.length ↔ l.Nodup) := by
  induction l with
  | nil => simp [orN, pc]
  | cons x r ih =>
    have hx := hl x (by simp)
    have hr : ∀ y ∈ r, 0 ≤ y ∧ y < 8 := fun y hy => hl y (by simp [hy])
    have ⟨h1, h2⟩ := ih hr
    have ⟨h3, h4⟩ := orN_bits r hr
    simp only [orN, List.length_cons, List.nodup_cons]
    rw [(or_bit _ h3 _ (by omega)).2, h4 _ (by omega), Int.toNat_of_nonneg hx.1]
    by_cases e : x ∈ r
    · simp [e]; omega
    · simp [e]; rw [← h2]; omega
/-- A bracket of different numbers from 0 to 7. -/
def isFull (xs : List Int) : Prop := brkSize xs.length ∧ (∀ x ∈ xs, 0 ≤ x ∧ x ≤ 7) ∧ xs.Nodup
instance (xs : List Int) : Decidable (isFull xs) := by unfold isFull; infer_instance

/-! ### The least form of a bracket -/
/-- Of two halves the one with the lesser first number comes first. -/
def joinB (x y : List Int) : List Int := if y.getD 0 0 < x.getD 0 0 then y ++ x else x ++ y
def formB : Nat → List Int → List Int
  | 0, xs => xs
  | k + 1, xs => joinB (formB k (xs.take (pw2 k))) (formB k (xs.drop (pw2 k)))
theorem joinB_len (x y : List Int) : (joinB x y).length = x.length + y.length := by unfold joinB; split <;> simp [Nat.add_comm]
theorem formB_len (k : Nat) : ∀ xs : List Int, xs.length = pw2 k → (formB k xs).length = pw2 k := by
  induction k with
  | zero => intro xs h; exact h
  | succ k ih =>
    intro xs h
    simp only [pw2] at h
    simp only [formB, joinB_len]
    rw [ih _ (by simp; omega), ih _ (by simp; omega)]
    simp only [pw2]; omega
theorem joinB_yes {x y : List Int} (h : y.getD 0 0 < x.getD 0 0) : joinB x y = y ++ x := if_pos h
theorem joinB_no {x y : List Int} (h : ¬ y.getD 0 0 < x.getD 0 0) : joinB x y = x ++ y := if_neg h
theorem joinB_mem {x y : List Int} {z : Int} (h : z ∈ joinB x y) : z ∈ x ∨ z ∈ y := by
  unfold joinB at h; split at h <;> rw [List.mem_append] at h
  · exact h.symm
  · exact h
theorem formB_mem (k : Nat) : ∀ (xs : List Int) (z : Int), z ∈ formB k xs → z ∈ xs := by
  induction k with
  | zero => intro xs z h; exact h
  | succ k ih =>
    intro xs z h
    rcases joinB_mem h with h | h
    · exact List.mem_of_mem_take (ih _ _ h)
    · exact List.mem_of_mem_drop (ih _ _ h)
def sameBracket (xs ys : List Int) : Prop := isFull xs ∧ isFull ys ∧ xs.length = ys.length ∧ formB (lg xs.length) xs = formB (lg ys.length) ys
instance (xs ys : List Int) : Decidable (sameBracket xs ys) := by unfold sameBracket; infer_instance
/-- The rows of a monotone tour, while they are filled: row a up to player b. -/
def monoMid (n a b : Nat) : List Int := (List.range n).map fun (i : Nat) => if i < a then (monoRow n i : Int) else if i = a then (upN (a + 1) (b - (a + 1)) : Int) else 0
theorem monoMid_len (n a b : Nat) : (monoMid n a b).length = n := by simp [monoMid]
theorem monoMid_get {n a b : Nat} (h : a < n) : (monoMid n a b)[a]? = some (upN (a + 1) (b - (a + 1)) : Int) := by simp [monoMid, h]
theorem monoMid_set {n a b : Nat} (hb : a < b) : (monoMid n a b).set a ((upN (a + 1) (b - (a + 1)) + 2 ^ b : Nat) : Int) = monoMid n a (b + 1) := by
  apply List.ext_getElem?
  intro i
  rw [List.getElem?_set, monoMid_len]
  by_cases hi : i < n
  · by_cases e : a = i
    · subst e
      rw [if_pos rfl, if_pos hi, monoMid_get hi, show b + 1 - (a + 1) = (b - (a + 1)) + 1 by omega]
      simp only [upN]
      rw [show a + 1 + (b - (a + 1)) = b by omega]
    · have e' : ¬ i = a := fun h => e h.symm
      rw [if_neg e]
      simp [monoMid, hi, e']
  · by_cases e : a = i
    · subst e; simp [monoMid, hi]
    · rw [if_neg e]; simp [monoMid, hi]
theorem monoMid_next {n a : Nat} (h : a < n) : monoMid n a n = monoMid n (a + 1) (a + 2) := by
  apply List.ext_getElem?
  intro i
  by_cases hi : i < n
  · simp only [monoMid, List.getElem?_map, List.getElem?_range hi, Option.map_some]
    congr 1
    by_cases e : i < a
    · rw [if_pos e, if_pos (by omega)]
    · rw [if_neg e]
      by_cases e2 : i = a
      · subst e2; rw [if_pos rfl, if_pos (by omega)]; rfl
      · rw [if_neg e2, if_neg (by omega)]
        split
        · rw [show a + 2 - (a + 1 + 1) = 0 by omega]; simp [upN]
        · rfl
  · simp [monoMid, hi]
theorem monoMid_start (n : Nat) : List.replicate n (0 : Int) = monoMid n 0 1 := by
  apply List.ext_getElem?
  intro i
  by_cases hi : i < n
  · simp only [monoMid, List.getElem?_map, List.getElem?_range hi, Option.map_some, List.getElem?_replicate, hi, if_true]
    congr 1
    rw [if_neg (by omega)]
    split
    · simp [upN]
    · rfl
  · simp [monoMid, hi]
theorem monoMid_end (n : Nat) : monoMid n n (n + 1) = mono n := by
  apply List.ext_getElem?
  intro i
  by_cases hi : i < n
  · simp only [monoMid, mono, List.getElem?_map, List.getElem?_range hi, Option.map_some, hi, if_true]
  · simp [monoMid, mono, hi]
theorem prs_step (n a b : Nat) (h : a < b) (hb : b ≤ n) : prs n a + (b - (a + 1)) + 1 = prs n a + (b + 1 - (a + 1)) := by omega
theorem prs_next (n a : Nat) (h : a < n) : prs n a + (n - (a + 1)) = prs n (a + 1) + (a + 2 - (a + 1 + 1)) := by simp only [prs]; omega
theorem mono_wf {n : Nat} (h : n ≤ 8) : ∀ x ∈ mono n, 0 ≤ x ∧ x < 256 := by
  intro x hx
  simp only [mono, List.mem_map, List.mem_range] at hx
  obtain ⟨a, ha, rfl⟩ := hx
  have h1 := (mono_bits n (by omega) a ha).1
  have h2 : 2 ^ n ≤ 2 ^ 8 := Nat.pow_le_pow_right (by omega) h
  omega

end Go.Proofs.Ytbaljgdepicigaa
