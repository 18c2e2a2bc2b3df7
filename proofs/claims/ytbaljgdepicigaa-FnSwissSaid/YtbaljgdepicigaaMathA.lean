/-
  Plain lemmas on lists and numbers: no program.
-/
import Derived.Test.YtbaljgdepicigaaBase
namespace Go.Proofs.Ytbaljgdepicigaa
set_option linter.unusedVariables false

theorem take_snoc_of {α : Type} {l : List α} {k : Nat} {x : α} (h : l[k]? = some x) : l.take (k + 1) = l.take k ++ [x] := by
  rw [List.take_add_one, h]; rfl
theorem take_len {α : Type} {l : List α} {n : Nat} (h : l.length = n) : l.take n = l := List.take_of_length_le (by omega)
theorem mem_take_of {α : Type} {l : List α} {j k : Nat} {x : α} (h : l[j]? = some x) (hj : j < k) : x ∈ l.take k :=
  List.mem_of_getElem? (i := j) (by rw [List.getElem?_take, if_pos hj]; exact h)
theorem all_of_take {α : Type} {P : α → Prop} {l : List α} {n : Nat} (hl : l.length = n) (h : ∀ x ∈ l.take n, P x) : ∀ x ∈ l, P x := by rw [take_len hl] at h; exact h

/-- The first place of v, or -1. -/
def idx : List Int → Int → Int
  | [], _ => -1
  | x :: r, v => if x = v then 0 else let k := idx r v; if k < 0 then -1 else k + 1
theorem idx_hit {xs : List Int} {v : Int} {k : Nat} (hn : ¬ v ∈ xs.take k) (hk : xs[k]? = some v) : idx xs v = k := by
  induction xs generalizing k with
  | nil => simp at hk
  | cons x r ih =>
    cases k with
    | zero => simp at hk; simp [idx, hk]
    | succ k =>
      simp at hn hk
      have := ih hn.2 hk
      simp only [idx]
      rw [if_neg (fun e => hn.1 e.symm), this]
      rw [if_neg (by omega)]; omega
theorem idx_miss {xs : List Int} {v : Int} (hn : ¬ v ∈ xs) : idx xs v = -1 := by
  induction xs with
  | nil => rfl
  | cons x r ih =>
    simp at hn
    simp only [idx]
    rw [if_neg (fun e => hn.1 e.symm), ih hn.2]; rfl
theorem idx_bound (xs : List Int) (v : Int) : -1 ≤ idx xs v ∧ idx xs v < xs.length := by
  induction xs with
  | nil => simp [idx]
  | cons x r ih =>
    simp only [idx, List.length_cons]
    split
    · omega
    · split <;> omega
theorem idx_ge {xs : List Int} {v : Int} : 0 ≤ idx xs v ↔ v ∈ xs := by
  induction xs with
  | nil => simp [idx]
  | cons x r ih =>
    simp only [idx]
    by_cases e : x = v
    · simp [e]
    · have e' : ¬ v = x := fun h => e h.symm
      simp only [e, e', if_false, List.mem_cons, false_or]
      have := idx_bound r v
      by_cases h : v ∈ r
      · have h1 := ih.2 h
        simp only [h, iff_true]
        rw [if_neg (by omega)]; omega
      · have h1 : ¬ 0 ≤ idx r v := fun h' => h (ih.1 h')
        simp only [h, iff_false]
        rw [if_pos (by omega)]; omega
theorem idx_get {xs : List Int} {v : Int} (h : 0 ≤ idx xs v) : xs[(idx xs v).toNat]? = some v := by
  induction xs with
  | nil => simp [idx] at h
  | cons x r ih =>
    simp only [idx] at h ⊢
    by_cases e : x = v
    · simp [e]
    · simp only [e, if_false] at h ⊢
      by_cases h' : idx r v < 0
      · rw [if_pos h'] at h; omega
      · rw [if_neg h']
        have := ih (by omega)
        rw [show (idx r v + 1).toNat = (idx r v).toNat + 1 by omega]
        simpa using this
theorem mem_take_succ {xs : List Int} {v x : Int} {k : Nat} (hx : xs[k]? = some x) (hn : ¬ v ∈ xs.take k) (hne : v ≠ x) : ¬ v ∈ xs.take (k + 1) := by
  rw [take_snoc_of hx]; simp [hn, hne]

/-- A list of each number from 0 up to its length, once. -/
def isOrder (xs : List Int) : Prop := (∀ x ∈ xs, 0 ≤ x ∧ x < xs.length) ∧ xs.Nodup
instance (xs : List Int) : Decidable (isOrder xs) := by unfold isOrder; infer_instance
theorem nodup_snoc {xs : List Int} {k : Nat} {x : Int} (hx : xs[k]? = some x) : (xs.take (k + 1)).Nodup ↔ (xs.take k).Nodup ∧ ¬ x ∈ xs.take k := by
  rw [take_snoc_of hx, List.nodup_append]
  simp
  intro _
  constructor
  · intro h hx; exact h x hx rfl
  · intro h y hy e; exact h (e ▸ hy)
theorem nodup_take {xs : List Int} {k : Nat} (h : xs.Nodup) : (xs.take k).Nodup := h.sublist (List.take_sublist k xs)
theorem set_fill {α : Type} {l : List α} {n k : Nat} {x d : α} (hl : l.length = n) (hx : l[k]? = some x) :
    (l.take k ++ List.replicate (n - k) d).set k x = l.take (k + 1) ++ List.replicate (n - (k + 1)) d := by
  have hk : k < l.length := (List.getElem?_eq_some_iff.1 hx).1
  have hlk : (l.take k).length = k := by simp; omega
  rw [List.set_append, if_neg (by omega), hlk, Nat.sub_self, take_snoc_of hx, show n - k = (n - (k + 1)) + 1 by omega, List.replicate_succ, List.set_cons_zero]
  simp
theorem idx_le {xs : List Int} {v : Int} (hn : xs.length ≤ 8) : -1 ≤ idx xs v ∧ idx xs v ≤ 8 := by
  have := idx_bound xs v; omega
/-- How many y in ys stand before x in b. -/
def invRow (b : List Int) (x : Int) (ys : List Int) : Nat := ys.countP fun y => decide (idx b y < idx b x)
theorem invRow_snoc (b : List Int) (x : Int) (ys : List Int) (k : Nat) {y : Int} (h : ys[k]? = some y) : invRow b x (ys.take (k + 1)) = invRow b x (ys.take k) + if idx b y < idx b x then 1 else 0 := by
  rw [take_snoc_of h, invRow, List.countP_append]
  by_cases hh : idx b y < idx b x <;> simp [invRow, hh]
theorem invRow_le (b : List Int) (x : Int) (ys : List Int) : invRow b x ys ≤ ys.length := List.countP_le_length
/-- The pairs of the first k of a with those behind them that stand the other way round in b. -/
def invTo (a b : List Int) : Nat → Nat
  | 0 => 0
  | k + 1 => invTo a b k + invRow b (a.getD k 0) (a.drop (k + 1))
theorem invTo_le (a b : List Int) (k : Nat) : invTo a b k ≤ k * a.length := by
  induction k with
  | zero => simp [invTo]
  | succ k ih =>
    have := invRow_le b (a.getD k 0) (a.drop (k + 1))
    simp only [List.length_drop] at this
    simp only [invTo, Nat.succ_mul]
    omega
theorem mul_8 {k n : Nat} (h1 : k ≤ 8) (h2 : n ≤ 8) : k * n ≤ 64 := Nat.le_trans (Nat.mul_le_mul h1 h2) (by omega)

end Go.Proofs.Ytbaljgdepicigaa
