/-
  The reference's list of all pairings, and its first pairing.
-/
import Derived.Deep.RegionLaw
import Derived.Laws.ShiftsVar
import Derived.Test.YtbaljgdepicigaaDoorBase
import Derived.Test.YtbaljgdepicigaaDoorMgA
import Derived.Test.YtbaljgdepicigaaDoorLib
import Derived.Test.YtbaljgdepicigaaDoorAid
import Derived.Test.YtbaljgdepicigaaDoorStep
import Derived.Test.YtbaljgdepicigaaDoorGrid
import Derived.Test.YtbaljgdepicigaaDoorLibF
import Derived.Test.YtbaljgdepicigaaDoorMgB
import Derived.Test.YtbaljgdepicigaaDoorFillD
namespace Go.Proofs.YtbaljgdepicigaaDoor
open Go.RowKit
set_option linter.unusedVariables false
set_option maxRecDepth 100000

-- words
theorem run_mid_int (A : Option Addr) (n c k h : Nat) (hk : k ≤ h) (hn : h ≤ n) (hc : n ≤ c) (l r : Int) (hl : l = (k : Int)) (hr : r = (h : Int)) (w : World) :
    (Instr.sliceAt 23 (.slice A n c) (some (.int .i64 l)) (some (.int .i64 r)) none).run Tryd.prog w = .ok (.slice (tailA A c k) (h - k) (c - k)) w := by
  subst hl hr
  have ht : Tryd.prog.underlying 23 = some (.slice 3) := Tryd.underlying23
  obtain ⟨i, hi, hs⟩ := Option.map_eq_some_iff.1 size_int
  have e : Tryd.prog.elem 23 = 3 := by simp [Program.elem, ht]
  have ht' : Tryd.prog.underlying 23 = some (.slice (Tryd.prog.elem 23)) := by rw [e]; exact ht
  rw [run_sliceAt_slice w 23 _ _ _ _ ht', run_slice_lh w 23 A n c ht' .i64 .i64 (k : Int) (h : Int) (by omega) (by omega) (by omega)]
  rw [e]
  simp [sizeOf, typeInfo, hi, hs, sliced, tailA]
theorem Ints.mid {w : World} {A : Option Addr} {n c : Nat} {xs : List Int} (h : Ints w A n c xs) {k j : Nat} (hk : k ≤ j) (hj : j ≤ n) : Ints w (tailA A c k) (j - k) (c - k) ((xs.take j).drop k) :=
  (h.take hj).tail hk
theorem push_rowG {ops : Array Oper} {rest : List Oper} {o : Oper} {a : Act} {Q : Exit → Act → World → Prop} {w0 w : World} {lo : Nat} {A B : Option Addr} {n c m d : Nat} {rows : List (List Int)} {r : List Int} (hgd : o.guard = none) (s x : Operand)
    (ho : o.op = .call { callee := .builtin .append, args := #[s, x], argTypes := #[94, 94] })
    (hs : a.eval s = .slice A n c) (h : OwG w0 lo w0.heap.size A n c rows) (hE : Ext w0 w) (hB : OwI w w0.heap.size B m d r) (X : Nat) (hx : a.eval x = .slice (some ⟨X, 0, none⟩) 1 1) (hX : w.cell? ⟨X, 0, none⟩ = some (.slice B m d))
    (hsz : n + 1 ≤ 1073741824) (hlo : lo ≤ w0.heap.size)
    (hk : ∀ A' c' w', OwG w' lo w'.heap.size A' (n + 1) c' (rows ++ [r]) → w.grownBy w' (A.map (·.block)) → (A'.map (·.block) = A.map (·.block) ∨ A'.map (·.block) = some w.heap.size) → wpList Tryd.prog ops Q rest (a.put o.dst (.slice A' (n + 1) c')) w') : wpList Tryd.prog ops Q (o :: rest) a w := by
  obtain ⟨hs1, h⟩ := h
  obtain ⟨i0, hi0, hz0, hz1, hz2⟩ := info_parts info_sl
  refine wpList_push_any hgd s x 94 ho i0 _ 24 Tryd.underlying94 hi0 hz0 hz1 hz2 rfl hs (h.ow.ext hE) (some ⟨X, 0, none⟩) 1 1 [.slice B m d] hx
    ⟨rfl, Nat.le_refl _, by omega, fun _ => ⟨X, 0, rfl, World.block_lt_of_cell? w _ hX, fun k v hv => ?_⟩⟩ (by simp [Value.oneCell']) (by omega) (by omega) (by have := hE.size; omega) ?_
  · match k with
    | 0 => simp at hv; subst hv; exact hX
    | k + 1 => simp at hv
  · intro A' c' w' h1 h2 h3
    exact hk A' c' w' (OwG.pushed h hE hB h1 h2 hlo) h2 h3
theorem OwG.top {w : World} {lo hi : Nat} {A : Option Addr} {n c : Nat} {rows : List (List Int)} (h : OwG w lo hi A n c rows) : ∀ k, A.map (·.block) = some k → lo ≤ k ∧ k < hi := by
  obtain ⟨hs, h⟩ := h
  exact fun k hk => ⟨(h.ow.block k hk).1, h.top k hk⟩
theorem allL_len (ms : List Int) : ∀ (k : Nat) (left ps : List Int), left.length ≤ 8 → (allL ms k left ps).length ≤ 8 ^ k := by
  have key : ∀ (l : List Nat) (f : Nat → List (List Int)) (m : Nat), (∀ x ∈ l, (f x).length ≤ m) → (l.flatMap f).length ≤ l.length * m := by
    intro l f m
    induction l with
    | nil => simp
    | cons x l ih =>
      intro h
      have h1 := h x (by simp)
      have h2 := ih fun y hy => h y (by simp [hy])
      rw [List.flatMap_cons, List.length_append, List.length_cons, Nat.succ_mul]
      omega
  intro k
  induction k with
  | zero => intro left ps _; simp [allL]
  | succ k ih =>
    intro left ps hl
    simp only [allL]
    have hp : 1 ≤ 8 ^ k := Nat.one_le_pow _ _ (by omega)
    split
    · rw [Nat.pow_succ]; simp; omega
    · refine Nat.le_trans (key _ _ (8 ^ k) fun x hx => ?_) ?_
      · unfold allStep
        split
        · simp
        · refine ih _ _ ?_
          have := List.mem_range.1 hx
          simp
          omega
      · rw [Nat.pow_succ, Nat.mul_comm, List.length_range]
        exact Nat.mul_le_mul_left _ hl
theorem take_flat (f : Nat → List (List Int)) (i : Nat) : (List.range (i + 1)).flatMap f = (List.range i).flatMap f ++ f i := by rw [List.range_succ, List.flatMap_append]; simp
def accA (ms left ps : List Int) (k i : Nat) : List (List Int) := (List.range i).flatMap (allStep ms left ps (allL ms k))
theorem accA_succ (ms left ps : List Int) (k i : Nat) : accA ms left ps k (i + 1) = accA ms left ps k i ++ allStep ms left ps (allL ms k) i := take_flat _ _
/-- The same block, or a new one. -/
def Apt (w : World) (A B : Option Addr) : Prop := A.map (·.block) = B.map (·.block) ∨ ∃ b, A.map (·.block) = some b ∧ w.heap.size ≤ b
theorem accA_len (ms left ps : List Int) (k : Nat) (hl : left.length ≤ 8) : ∀ i, i ≤ left.length → (accA ms left ps k i).length ≤ i * 8 ^ k := by
  intro i
  induction i with
  | zero => intro _; simp [accA]
  | succ i ih =>
    intro hi
    have h1 := ih (by omega)
    rw [accA_succ, List.length_append, Nat.succ_mul]
    have h2 : (allStep ms left ps (allL ms k) i).length ≤ 8 ^ k := by
      unfold allStep
      split
      · simp
      · refine allL_len ms k _ _ ?_
        simp
        omega
    omega
theorem mid_sub (l : List Int) (i : Nat) : ((l.take i).drop 1 ++ l.drop (i + 1)).Sublist l := by
  have h1 : ((l.take i).drop 1).Sublist (l.take i) := List.drop_sublist _ _
  have h2 : (l.drop (i + 1)).Sublist (l.drop i) := by rw [← List.drop_drop]; exact List.drop_sublist _ _
  have := h1.append h2
  rwa [List.take_append_drop] at this

end Go.Proofs.YtbaljgdepicigaaDoor
