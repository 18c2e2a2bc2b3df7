/-
  Plain lemmas on the shortest tour through a set: no program.
-/
import Derived.Test.YtbaljgdepicigaaBase
import Derived.Test.YtbaljgdepicigaaMathA
import Derived.Test.YtbaljgdepicigaaMathD
import Derived.Test.YtbaljgdepicigaaMathT
namespace Go.Proofs.Ytbaljgdepicigaa
set_option linter.unusedVariables false

/-! ### The elements of a set -/
def elTo (m k : Nat) : List Int := ((List.range k).filter fun a => m.testBit a).map fun (a : Nat) => (a : Int)
theorem elTo_succ (m k : Nat) : elTo m (k + 1) = elTo m k ++ if m.testBit k then [(k : Int)] else [] := by
  unfold elTo; rw [List.range_succ, List.filter_append, List.map_append]
  cases h : m.testBit k <;> simp [h]
theorem mem_elTo {m k : Nat} {x : Int} : x ∈ elTo m k ↔ ∃ a : Nat, a < k ∧ m.testBit a = true ∧ x = a := by
  simp [elTo]
  constructor
  · rintro ⟨a, ⟨h1, h2⟩, rfl⟩; exact ⟨a, h1, h2, rfl⟩
  · rintro ⟨a, h1, h2, rfl⟩; exact ⟨a, ⟨h1, h2⟩, rfl⟩
theorem elTo_len (m k : Nat) : (elTo m k).length ≤ k := by
  unfold elTo; rw [List.length_map]; have := List.length_filter_le (fun a => m.testBit a) (List.range k); simpa using this
def els (m : Nat) : List Int := elTo m 10
theorem elTo_end {m a : Nat} (hm : m < 1024) (ha : a ≤ 10) (h : m / 2 ^ a = 0) : elTo m a = els m := by
  have hlt : m < 2 ^ a := (Nat.div_eq_zero_iff_lt (Nat.two_pow_pos a)).1 h
  have key : ∀ j : Nat, elTo m (a + j) = elTo m a := by
    intro j
    induction j with
    | zero => rfl
    | succ j ih =>
      rw [← Nat.add_assoc, elTo_succ, ih, Nat.testBit_lt_two_pow (Nat.lt_of_lt_of_le hlt (Nat.pow_le_pow_right (by omega) (by omega)))]
      simp
  have := key (10 - a)
  rw [show a + (10 - a) = 10 by omega] at this
  exact this.symm
/-- How many bits are set, below 10. -/
def pcT (m : Nat) : Nat := ((List.range 10).filter fun a => m.testBit a).length
theorem pcT_zero {m : Nat} (hm : m < 1024) (h : pcT m = 0) : m = 0 := by
  apply Nat.eq_of_testBit_eq
  intro i
  rw [Nat.zero_testBit]
  by_cases hi : i < 10
  · have h2 := List.eq_nil_of_length_eq_zero h
    rw [List.filter_eq_nil_iff] at h2
    have := h2 i (by simpa using hi)
    simpa using this
  · exact Nat.testBit_lt_two_pow (Nat.lt_of_lt_of_le hm (Nat.pow_le_pow_right (n := 2) (i := 10) (by omega) (by omega)))
theorem take_bit {m a : Nat} (h : m.testBit a = true) (b : Nat) : (m - 2 ^ a).testBit b = (m.testBit b && !decide (a = b)) := by
  have hr : m % 2 ^ a < 2 ^ a := Nat.mod_lt _ (Nat.two_pow_pos a)
  have h2 : m / 2 ^ a % 2 = 1 := by rw [Nat.testBit_eq_decide_div_mod_eq] at h; exact of_decide_eq_true h
  have e0 : m = 2 ^ a * (m / 2 ^ a) + m % 2 ^ a := (Nat.div_add_mod m (2 ^ a)).symm
  have e1 : m / 2 ^ a = 2 * (m / 2 ^ a / 2) + 1 := by omega
  generalize m / 2 ^ a / 2 = q at e1
  generalize m % 2 ^ a = r at *
  have e3 : m = 2 ^ (a + 1) * q + (2 ^ a * 1 + r) := by
    rw [e0, e1, Nat.mul_add, ← Nat.mul_assoc, Nat.pow_succ]; omega
  have e4 : m - 2 ^ a = 2 ^ (a + 1) * q + r := by omega
  have p2 : 2 ^ (a + 1) = 2 * 2 ^ a := by rw [Nat.pow_succ]; omega
  have f3 : m = 2 ^ (a + 1) * q ||| (2 ^ a * 1 ||| r) := by
    rw [← Nat.two_pow_add_eq_or_of_lt hr, ← Nat.two_pow_add_eq_or_of_lt (by omega)]; exact e3
  have f4 : m - 2 ^ a = 2 ^ (a + 1) * q ||| r := by rw [← Nat.two_pow_add_eq_or_of_lt (by omega)]; exact e4
  have hra : r.testBit a = false := Nat.testBit_lt_two_pow hr
  have hqa : (2 ^ (a + 1) * q).testBit a = false := by rw [Nat.testBit_two_pow_mul]; simp; omega
  rw [f4]
  conv => rhs; rw [f3]
  rw [Nat.testBit_or, Nat.testBit_or, Nat.testBit_or, Nat.mul_one, Nat.testBit_two_pow]
  by_cases e : a = b
  · subst e; simp [hra, hqa]
  · simp [e]
theorem pcT_take {m a : Nat} (ha : a < 10) (h : m.testBit a = true) : pcT (m - 2 ^ a) + 1 = pcT m := by
  unfold pcT
  have key : ∀ k : Nat, ((List.range k).filter fun b => (m - 2 ^ a).testBit b).length + (if a < k then 1 else 0) = ((List.range k).filter fun b => m.testBit b).length := by
    intro k
    induction k with
    | zero => simp
    | succ k ih =>
      rw [List.range_succ, List.filter_append, List.filter_append, List.length_append, List.length_append, ← ih]
      simp only [List.filter_cons, List.filter_nil, take_bit h k]
      by_cases e : a = k
      · subst e; simp [h]
      · have : (a < k + 1) ↔ a < k := by omega
        simp only [this, e, decide_false, Bool.not_false, Bool.and_true]
        omega
  have := key 10
  rw [if_pos ha] at this
  exact this
theorem bit_le {m a : Nat} (h : m.testBit a = true) : 2 ^ a ≤ m := Nat.ge_two_pow_of_testBit h

/-! ### The shortest way -/
def minOf (f : Int → Int) (l : List Int) : Int := l.foldl (fun b p => if b < 0 ∨ f p < b then f p else b) (-1)
theorem minOf_snoc (f : Int → Int) (l : List Int) (p : Int) : minOf f (l ++ [p]) = if minOf f l < 0 ∨ f p < minOf f l then f p else minOf f l := by unfold minOf; rw [List.foldl_append]; rfl
theorem minOf_take (f : Int → Int) {l : List Int} {k : Nat} {p : Int} (h : l[k]? = some p) : minOf f (l.take (k + 1)) = if minOf f (l.take k) < 0 ∨ f p < minOf f (l.take k) then f p else minOf f (l.take k) := by
  rw [take_snoc_of h, minOf_snoc]
theorem minOf_bound {f : Int → Int} {B : Int} (hB : 0 ≤ B) : ∀ (l : List Int), (∀ p ∈ l, 0 ≤ f p ∧ f p ≤ B) → -1 ≤ minOf f l ∧ minOf f l ≤ B ∧ (l ≠ [] → 0 ≤ minOf f l) := by
  intro l
  rw [← List.reverse_reverse l]
  induction l.reverse with
  | nil => intro _; simp [minOf]; omega
  | cons p r ih =>
    intro h
    rw [List.reverse_cons] at h ⊢
    have hp := h p (by simp)
    have := ih fun q hq => h q (by simp at hq ⊢; exact .inl hq)
    rw [minOf_snoc]
    split
    · exact ⟨by omega, by omega, fun _ => by omega⟩
    · rename_i hn; exact ⟨by omega, by omega, fun _ => by omega⟩
theorem minOf_congr {f g : Int → Int} : ∀ (l : List Int), (∀ p ∈ l, f p = g p) → minOf f l = minOf g l := by
  intro l
  rw [← List.reverse_reverse l]
  induction l.reverse with
  | nil => intro _; rfl
  | cons p r ih =>
    intro h
    rw [List.reverse_cons] at h ⊢
    rw [minOf_snoc, minOf_snoc, ih fun q hq => h q (by simp at hq ⊢; exact .inl hq), h p (by simp)]
/-- The length of the shortest way from at through the set home. -/
def tl (far : List (List Int)) (home : Nat) : Nat → Nat → Nat → Int
  | 0, at_, _ => at2 far at_ home
  | f + 1, at_, set => minOf (fun p => at2 far at_ p.toNat + tl far home f p.toNat (set - 2 ^ p.toNat)) (els set)
def tour (far : List (List Int)) (home at_ set : Nat) : Int := tl far home (pcT set) at_ set
theorem tour_zero (far : List (List Int)) (home at_ : Nat) : tour far home at_ 0 = at2 far at_ home := by
  have : pcT 0 = 0 := by decide
  unfold tour; rw [this]; rfl
def legOf (far : List (List Int)) (home at_ set : Nat) (p : Int) : Int := at2 far at_ p.toNat + tour far home p.toNat (set - 2 ^ p.toNat)
theorem tour_pos {far : List (List Int)} {home at_ set : Nat} (h : set < 1024) (h0 : set ≠ 0) : tour far home at_ set = minOf (legOf far home at_ set) (els set) := by
  obtain ⟨f, hf⟩ : ∃ f, pcT set = f + 1 := by
    rcases Nat.eq_zero_or_pos (pcT set) with e | e
    · exact absurd (pcT_zero h e) h0
    · exact ⟨pcT set - 1, by omega⟩
  show tl far home (pcT set) at_ set = _
  rw [hf]
  refine minOf_congr _ fun p hp => ?_
  obtain ⟨a, ha, hb, rfl⟩ := mem_elTo.1 hp
  unfold legOf tour
  have := pcT_take ha hb
  simp only [Int.toNat_natCast]
  rw [show pcT (set - 2 ^ a) = f by omega]
theorem tl_bound {n : Int} {far : List (List Int)} (h : distOk n far) (home : Nat) : ∀ f at_ set, pcT set = f → set < 1024 → 0 ≤ tl far home f at_ set ∧ tl far home f at_ set ≤ 1000 * (f + 1) := by
  intro f
  induction f with
  | zero => intro at_ set _ _; have := at2_bound h at_ home; simp only [tl]; omega
  | succ f ih =>
    intro at_ set hs h10
    have hne : els set ≠ [] := by
      intro e
      have : pcT set = 0 := by
        unfold els elTo at e
        have h2 := List.map_eq_nil_iff.1 e
        unfold pcT; rw [h2]; rfl
      omega
    have hb := minOf_bound (f := fun p => at2 far at_ p.toNat + tl far home f p.toNat (set - 2 ^ p.toNat)) (B := 1000 * ((f : Int) + 1 + 1)) (by omega) (els set) fun p hp => by
      obtain ⟨a, ha, hb, rfl⟩ := mem_elTo.1 hp
      have h1 := at2_bound h at_ a
      have h2 := pcT_take ha hb
      have h3 := ih a (set - 2 ^ a) (by omega) (Nat.lt_of_le_of_lt (Nat.sub_le _ _) h10)
      simp only [Int.toNat_natCast]
      omega
    simp only [tl]
    have := hb.2.2 hne
    have := hb.2.1
    omega
theorem pcT_le (m : Nat) : pcT m ≤ 10 := by unfold pcT; have := List.length_filter_le (fun a => m.testBit a) (List.range 10); simpa using this
theorem tour_bound {n : Int} {far : List (List Int)} (h : distOk n far) (home at_ set : Nat) (hs : set < 1024) : 0 ≤ tour far home at_ set ∧ tour far home at_ set ≤ 11000 := by
  have := tl_bound h home (pcT set) at_ set rfl hs
  have := pcT_le set
  unfold tour; omega
theorem leg_bound {n : Int} {far : List (List Int)} (h : distOk n far) (home at_ set : Nat) (hs : set < 1024) (p : Int) : 0 ≤ legOf far home at_ set p ∧ legOf far home at_ set p ≤ 12000 := by
  have := at2_bound h at_ p.toNat
  have := tour_bound h home p.toNat (set - 2 ^ p.toNat) (Nat.lt_of_le_of_lt (Nat.sub_le _ _) hs)
  unfold legOf; omega
def leastTour (n : Int) (far : List (List Int)) (k set : Int) : Int :=
  if distOk n far ∧ (0 ≤ k ∧ k ≤ n - 1) ∧ (0 ≤ set ∧ set ≤ 2 ^ n.toNat - 1) ∧ set / 2 ^ k.toNat % 2 ≠ 1 then tour far k.toNat k.toNat set.toNat else -1

end Go.Proofs.Ytbaljgdepicigaa
