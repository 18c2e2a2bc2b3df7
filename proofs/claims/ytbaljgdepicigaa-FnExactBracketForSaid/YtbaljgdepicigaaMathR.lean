/-
  Plain lemmas on all orders of a list, in lexicographic order: no program.
-/
import Derived.Test.YtbaljgdepicigaaBase
import Derived.Test.YtbaljgdepicigaaMathA
import Derived.Test.YtbaljgdepicigaaMathD
import Derived.Test.YtbaljgdepicigaaMathB
import Derived.Test.YtbaljgdepicigaaMathU
import Derived.Test.YtbaljgdepicigaaMathS
import Derived.Test.YtbaljgdepicigaaMathP
namespace Go.Proofs.Ytbaljgdepicigaa
set_option linter.unusedVariables false

/-- Before, of two lists of one length. -/
def lx : List Int → List Int → Bool
  | x :: a, y :: b => decide (x < y) || (decide (x = y) && lx a b)
  | [], _ => false
  | _ :: _, [] => false
theorem lx_cons {x y : Int} {a b : List Int} : lx (x :: a) (y :: b) = true ↔ x < y ∨ x = y ∧ lx a b = true := by simp [lx]
theorem lx_irr (a : List Int) : lx a a = false := by
  induction a with
  | nil => rfl
  | cons x a ih => simp [lx, ih]
theorem lx_trans : ∀ {a b c : List Int}, lx a b = true → lx b c = true → lx a c = true
  | [], _, _, h, _ => by simp [lx] at h
  | _ :: _, [], _, h, _ => by simp [lx] at h
  | _ :: _, _ :: _, [], _, h => by simp [lx] at h
  | x :: a, y :: b, z :: c, h, k => by
    rw [lx_cons] at h k ⊢
    rcases h with h | ⟨rfl, h⟩ <;> rcases k with k | ⟨rfl, k⟩
    · left; omega
    · left; omega
    · left; omega
    · right; exact ⟨rfl, lx_trans h k⟩
theorem lx_asym {a b : List Int} (h : lx a b = true) : lx b a = false := by
  cases e : lx b a with
  | false => rfl
  | true => have := lx_trans h e; rw [lx_irr] at this; cases this
theorem lx_total : ∀ {a b : List Int}, a.length = b.length → a = b ∨ lx a b = true ∨ lx b a = true
  | [], [], _ => .inl rfl
  | [], _ :: _, h => by simp at h
  | _ :: _, [], h => by simp at h
  | x :: a, y :: b, h => by
    rw [lx_cons, lx_cons]
    rcases Int.lt_trichotomy x y with e | e | e
    · exact .inr (.inl (.inl e))
    · subst e
      rcases lx_total (a := a) (b := b) (by simpa using h) with rfl | k | k
      · exact .inl rfl
      · exact .inr (.inl (.inr ⟨rfl, k⟩))
      · exact .inr (.inr (.inr ⟨rfl, k⟩))
    · exact .inr (.inr (.inl e))
def lxe (a b : List Int) : Prop := a = b ∨ lx a b = true
theorem lxe_antisymm {a b : List Int} (h : lxe a b) (k : lxe b a) : a = b := by
  rcases h with h | h
  · exact h
  · rcases k with k | k
    · exact k.symm
    · rw [lx_asym h] at k; cases k
theorem lxe_trans {a b c : List Int} (h : lxe a b) (k : lxe b c) : lxe a c := by
  rcases h with rfl | h
  · exact k
  · rcases k with rfl | k
    · exact .inr h
    · exact .inr (lx_trans h k)
theorem lx_append_same : ∀ (c a b : List Int), lx (c ++ a) (c ++ b) = lx a b
  | [], _, _ => rfl
  | x :: c, a, b => by simp [lx, lx_append_same c a b]
theorem lx_append_of : ∀ {a c : List Int} (b d : List Int), a.length = c.length → lx a c = true → lx (a ++ b) (c ++ d) = true
  | [], _, _, _, _, h => by simp [lx] at h
  | _ :: _, [], _, _, hl, _ => by simp at hl
  | x :: a, y :: c, b, d, hl, h => by
    rw [List.cons_append, List.cons_append, lx_cons]
    rcases lx_cons.1 h with h | ⟨e, h⟩
    · exact .inl h
    · exact .inr ⟨e, lx_append_of b d (by simpa using hl) h⟩
theorem lxe_append {a b c d : List Int} (hl : a.length = c.length) (h : lxe a c) (k : lxe b d) : lxe (a ++ b) (c ++ d) := by
  rcases h with rfl | h
  · rcases k with rfl | k
    · exact .inl rfl
    · exact .inr (by rw [lx_append_same]; exact k)
  · exact .inr (lx_append_of b d hl h)
/-- All orders that go on from a beginning. -/
def extL (list : List Int) : Nat → List Int → List (List Int)
  | 0, pre => [pre]
  | k + 1, pre => list.flatMap fun n => if n ∈ pre then [] else extL list k (pre ++ [n])
theorem mem_extL {list : List Int} : ∀ (k : Nat) (pre p : List Int), p ∈ extL list k pre ↔ ∃ q, p = pre ++ q ∧ q.length = k ∧ (∀ x ∈ q, x ∈ list ∧ ¬ x ∈ pre) ∧ q.Nodup := by
  intro k
  induction k with
  | zero =>
    intro pre p
    simp only [extL, List.mem_singleton]
    constructor
    · rintro rfl; exact ⟨[], by simp, rfl, by simp, by simp⟩
    · rintro ⟨q, rfl, hq, _⟩; rw [List.length_eq_zero_iff.1 hq, List.append_nil]
  | succ k ih =>
    intro pre p
    simp only [extL, List.mem_flatMap]
    constructor
    · rintro ⟨n, hn, hp⟩
      split at hp
      · cases hp
      · rename_i hnp
        obtain ⟨q, rfl, hl, hq, hnd⟩ := (ih _ _).1 hp
        refine ⟨n :: q, by simp, by simp [hl], fun x hx => ?_, List.nodup_cons.2 ⟨fun h => (hq n h).2 (by simp), hnd⟩⟩
        rcases List.mem_cons.1 hx with rfl | hx
        · exact ⟨hn, hnp⟩
        · exact ⟨(hq x hx).1, fun h => (hq x hx).2 (by simp [h])⟩
    · rintro ⟨q, rfl, hl, hq, hnd⟩
      cases q with
      | nil => simp at hl
      | cons n q =>
        have hn := hq n (by simp)
        rw [List.nodup_cons] at hnd
        refine ⟨n, hn.1, ?_⟩
        rw [if_neg hn.2]
        refine (ih _ _).2 ⟨q, by simp, by simpa using hl, fun x hx => ⟨(hq x (by simp [hx])).1, fun h => ?_⟩, hnd.2⟩
        rcases List.mem_append.1 h with h | h
        · exact (hq x (by simp [hx])).2 h
        · simp at h; exact hnd.1 (h ▸ hx)
theorem pairwise_flatMap_of {α β : Type} {R : β → β → Prop} {S : α → α → Prop} {l : List α} {f : α → List β} (hl : l.Pairwise S) (h1 : ∀ x ∈ l, (f x).Pairwise R) (h2 : ∀ x y, S x y → ∀ u ∈ f x, ∀ v ∈ f y, R u v) : (l.flatMap f).Pairwise R := by
  induction l with
  | nil => simp
  | cons x l ih =>
    rw [List.flatMap_cons, List.pairwise_append]
    rw [List.pairwise_cons] at hl
    refine ⟨h1 x (by simp), ih hl.2 (fun y hy => h1 y (by simp [hy])), fun u hu v hv => ?_⟩
    obtain ⟨y, hy, hvy⟩ := List.mem_flatMap.1 hv
    exact h2 x y (hl.1 y hy) u hu v hvy
theorem sorted_extL {list : List Int} (hs : list.Pairwise (· < ·)) : ∀ (k : Nat) (pre : List Int), (extL list k pre).Pairwise (fun a b => lx a b = true) := by
  intro k
  induction k with
  | zero => intro pre; simp [extL]
  | succ k ih =>
    intro pre
    refine pairwise_flatMap_of hs (fun n _ => ?_) (fun x y hxy u hu v hv => ?_)
    · split
      · simp
      · exact ih _
    · split at hu
      · cases hu
      · split at hv
        · cases hv
        · obtain ⟨q, rfl, _⟩ := (mem_extL _ _ _).1 hu
          obtain ⟨r, rfl, _⟩ := (mem_extL _ _ _).1 hv
          rw [List.append_assoc, List.append_assoc, lx_append_same, List.singleton_append, List.singleton_append, lx_cons]
          exact .inl hxy
theorem find_least {l : List (List Int)} (hs : l.Pairwise (fun a b => lx a b = true)) {P : List Int → Bool} {p : List Int} (h : l.find? P = some p) : P p = true ∧ p ∈ l ∧ ∀ q ∈ l, P q = true → lxe p q := by
  induction l with
  | nil => cases h
  | cons x l ih =>
    rw [List.pairwise_cons] at hs
    rw [List.find?_cons] at h
    cases hx : P x with
    | true =>
      rw [hx] at h
      obtain rfl : x = p := by simpa using h
      refine ⟨hx, by simp, fun q hq _ => ?_⟩
      rcases List.mem_cons.1 hq with rfl | hq
      · exact .inl rfl
      · exact .inr (hs.1 q hq)
    | false =>
      rw [hx] at h
      obtain ⟨h1, h2, h3⟩ := ih hs.2 h
      refine ⟨h1, by simp [h2], fun q hq hP => ?_⟩
      rcases List.mem_cons.1 hq with rfl | hq
      · rw [hx] at hP; cases hP
      · exact h3 q hq hP

end Go.Proofs.Ytbaljgdepicigaa
