/-
  Words for slices of slices of ints, and the laws' helpers on them.
-/
import Derived.Deep.Matrix
import Derived.Test.YtgcdicfolmokfaaDoorBase
import Derived.Test.YtgcdicfolmokfaaDoorMathA
import Derived.Test.YtgcdicfolmokfaaDoorLib
import Derived.Test.YtgcdicfolmokfaaDoorAid
namespace Go.Proofs.YtgcdicfolmokfaaDoor
open Go.RowKit
set_option linter.unusedVariables false

-- words
/-- A slice as a value. -/
def sv (h : Option Addr × Nat × Nat) : Value := .slice h.1 h.2.1 h.2.2
/-- The slice '.slice A n c' of slices reads as the rows; its cells hold the slices hs. -/
structure GridH (w : World) (A : Option Addr) (n c : Nat) (hs : List (Option Addr × Nat × Nat)) (rows : List (List Int)) : Prop where
  rd : Rd w A n c (hs.map sv)
  hl : hs.length = rows.length
  row : ∀ (i : Nat) h r, hs[i]? = some h → rows[i]? = some r → Ints w h.1 h.2.1 h.2.2 r
def Grid (w : World) (A : Option Addr) (n c : Nat) (rows : List (List Int)) : Prop := ∃ hs, GridH w A n c hs rows
section
variable {w w' : World} {A : Option Addr} {n c : Nat} {hs : List (Option Addr × Nat × Nat)} {rows : List (List Int)}
theorem GridH.len (h : GridH w A n c hs rows) : rows.length = n := by have := h.rd.len; simp at this; rw [← h.hl]; exact this
theorem GridH.ext (h : GridH w A n c hs rows) (hE : Ext w w') : GridH w' A n c hs rows := ⟨h.rd.ext hE, h.hl, fun i x r hx hr => (h.row i x r hx hr).ext hE⟩
theorem Grid.len (h : Grid w A n c rows) : rows.length = n := by obtain ⟨_, h⟩ := h; exact h.len
theorem Grid.le (h : Grid w A n c rows) : n ≤ c := by obtain ⟨_, h⟩ := h; exact h.rd.le
theorem Grid.max (h : Grid w A n c rows) : c ≤ 9223372036854775807 := by obtain ⟨_, h⟩ := h; exact h.rd.max
theorem Grid.ext (h : Grid w A n c rows) (hE : Ext w w') : Grid w' A n c rows := by obtain ⟨_, h⟩ := h; exact ⟨_, h.ext hE⟩
theorem Grid.nil (w : World) : Grid w none 0 0 [] := ⟨[], Rd.nil w, rfl, fun i x r hx => by simp at hx⟩
theorem Grid.take (h : Grid w A n c rows) {k : Nat} (hk : k ≤ n) : Grid w A k c (rows.take k) := by
  obtain ⟨hs, h⟩ := h
  refine ⟨hs.take k, by rw [List.map_take]; exact h.rd.take hk, by simp [h.hl], fun i x r hx hr => ?_⟩
  rw [List.getElem?_take] at hx hr
  split at hx
  · rename_i hlt; rw [if_pos hlt] at hr; exact h.row i x r hx hr
  · cases hx
theorem Grid.drop (h : Grid w A n c rows) {k : Nat} (hk : k ≤ n) : Grid w (tailA A c k) (n - k) (c - k) (rows.drop k) := by
  obtain ⟨hs, h⟩ := h
  refine ⟨hs.drop k, by rw [List.map_drop]; exact h.rd.drop hk (fun e => by rw [tailA, if_neg e]), by simp [h.hl], fun i x r hx hr => ?_⟩
  rw [List.getElem?_drop] at hx hr
  exact h.row _ x r hx hr
theorem Grid.get (h : Grid w A n c rows) {k : Nat} (hk : k < n) : ∃ b off B d r, A = some ⟨b, off, none⟩ ∧ b < w.heap.size ∧ rows[k]? = some r ∧ w.cell? ⟨b, off + k, none⟩ = some (.slice B r.length d) ∧ Ints w B r.length d r := by
  obtain ⟨hs, h⟩ := h
  obtain ⟨b, off, v, e, hb, hv, hc⟩ := h.rd.get hk
  rw [List.getElem?_map] at hv
  have hkr : k < rows.length := by rw [h.len]; exact hk
  have hkh : k < hs.length := by rw [h.hl]; exact hkr
  rw [List.getElem?_eq_getElem hkh] at hv
  simp at hv
  have hr := h.row k hs[k] rows[k] (List.getElem?_eq_getElem hkh) (List.getElem?_eq_getElem hkr)
  have hln := hr.len
  refine ⟨b, off, hs[k].1, hs[k].2.2, rows[k], e, hb, List.getElem?_eq_getElem hkr, ?_, by rw [hln]; exact hr⟩
  rw [hc, ← hv, hln]; rfl
end

/-- The same of the call's own: all its blocks lie between lo and hi, and differ. -/
structure OwGH (w : World) (lo hi : Nat) (A : Option Addr) (n c : Nat) (hs : List (Option Addr × Nat × Nat)) (rows : List (List Int)) : Prop where
  ow : Ow w lo 22 A n c (hs.map sv)
  top : ∀ k, A.map (·.block) = some k → k < hi
  hl : hs.length = rows.length
  row : ∀ (i : Nat) h r, hs[i]? = some h → rows[i]? = some r → InI w lo hi h.1 h.2.1 h.2.2 r
  apart : ∀ (i j : Nat) h h', i ≠ j → hs[i]? = some h → hs[j]? = some h' → h.1.map (·.block) ≠ h'.1.map (·.block) ∨ h.1 = none
def OwG (w : World) (lo hi : Nat) (A : Option Addr) (n c : Nat) (rows : List (List Int)) : Prop := ∃ hs, OwGH w lo hi A n c hs rows
section
variable {w w' : World} {lo hi : Nat} {A : Option Addr} {n c : Nat} {hs : List (Option Addr × Nat × Nat)} {rows : List (List Int)}
theorem OwGH.grid (h : OwGH w lo hi A n c hs rows) : GridH w A n c hs rows := ⟨h.ow.rd, h.hl, fun i x r hx hr => (h.row i x r hx hr).ints⟩
theorem OwG.grid (h : OwG w lo hi A n c rows) : Grid w A n c rows := by obtain ⟨hs, h⟩ := h; exact ⟨hs, h.grid⟩
theorem OwG.len (h : OwG w lo hi A n c rows) : rows.length = n := h.grid.len
theorem OwGH.only {l u : Nat} (h : OwGH w lo hi A n c hs rows) (ho : Only l u w w') (hd : hi ≤ l ∨ u ≤ lo) : OwGH w' lo hi A n c hs rows :=
  ⟨h.ow.keep fun k hk => ho.block k (h.ow.block k hk).2 (by have := (h.ow.block k hk).1; have := h.top k hk; omega), h.top, h.hl, fun i x r hx hr => (h.row i x r hx hr).only ho hd, h.apart⟩
theorem OwGH.ext (h : OwGH w lo hi A n c hs rows) (hE : Ext w w') : OwGH w' lo hi A n c hs rows :=
  ⟨h.ow.ext hE, h.top, h.hl, fun i x r hx hr => (h.row i x r hx hr).ext hE, h.apart⟩
theorem OwG.only {l u : Nat} (h : OwG w lo hi A n c rows) (ho : Only l u w w') (hd : hi ≤ l ∨ u ≤ lo) : OwG w' lo hi A n c rows := by obtain ⟨hs, h⟩ := h; exact ⟨hs, h.only ho hd⟩
theorem OwG.ext (h : OwG w lo hi A n c rows) (hE : Ext w w') : OwG w' lo hi A n c rows := by obtain ⟨hs, h⟩ := h; exact ⟨hs, h.ext hE⟩
theorem InI.mono {lo' hi' : Nat} {xs : List Int} (h : InI w lo hi A n c xs) (hl : lo' ≤ lo) (hu : hi ≤ hi') : InI w lo' hi' A n c xs := ⟨h.ow.mono hl, fun k hk => by have := h.top k hk; omega⟩
theorem OwG.mono {lo' hi' : Nat} (h : OwG w lo hi A n c rows) (hl : lo' ≤ lo) (hu : hi ≤ hi') : OwG w lo' hi' A n c rows := by
  obtain ⟨hs, h⟩ := h
  exact ⟨hs, h.ow.mono hl, fun k hk => by have := h.top k hk; omega, h.hl, fun i x r hx hr => (h.row i x r hx hr).mono hl hu, h.apart⟩
/-- Blocks of ints and blocks of slices differ. -/
theorem OwGH.ne_row (h : OwGH w lo hi A n c hs rows) {i : Nat} {x : Option Addr × Nat × Nat} {r : List Int} (hx : hs[i]? = some x) (hr : rows[i]? = some r) :
    A.map (·.block) ≠ x.1.map (·.block) ∨ A = none := by
  rcases h.ow.own with ⟨e, _⟩ | ⟨b, off, cur, e, _, hh, _⟩
  · exact .inr e
  · refine .inl fun e2 => ?_
    rcases (h.row i x r hx hr).ow.ow.own with ⟨e3, _⟩ | ⟨b', off', cur', e3, _, hh', _⟩
    · rw [e, e3] at e2; cases e2
    · rw [e, e3] at e2
      simp at e2
      subst e2
      rw [hh] at hh'
      injection hh' with hh'
      injection hh' with _ ht
      exact absurd ht (by decide)
/-- One row is written. -/
theorem OwGH.set_row (h : OwGH w lo hi A n c hs rows) {i : Nat} {x : Option Addr × Nat × Nat} {r r' : List Int} (hx : hs[i]? = some x) (hr : rows[i]? = some r)
    (ho : OwI w' lo x.1 x.2.1 x.2.2 r') (hg : w.grownBy w' (x.1.map (·.block))) : OwGH w' lo hi A n c hs (rows.set i r') := by
  refine ⟨h.ow.grown hg (h.ne_row hx hr), h.top, by rw [List.length_set]; exact h.hl, fun j y s hy hs' => ?_, h.apart⟩
  rw [List.getElem?_set] at hs'
  by_cases e : i = j
  · subst e
    have hi : i < rows.length := (List.getElem?_eq_some_iff.1 hr).1
    rw [if_pos rfl, if_pos hi] at hs'
    cases hs'
    rw [hx] at hy
    cases hy
    exact ho.marked (h.row i x r hx hr)
  · rw [if_neg e] at hs'
    have hy' := h.row j y s hy hs'
    exact ⟨hy'.ow.grown hg (h.apart j i y x (fun e2 => e e2.symm) hy hx), hy'.top⟩
end

/-- A new slice of slices comes back. -/
def RetG (w : World) (rows : List (List Int)) (e : Ending) (w' : World) : Prop := ∃ A c, e = .returned (.slice A rows.length c) ∧ OwG w' w.heap.size w'.heap.size A rows.length c rows ∧ Ext w w'
theorem RetG.mk {w w' : World} {rows : List (List Int)} {e : Ending} {A : Option Addr} {n c : Nat} (he : e = .returned (.slice A n c)) (ho : OwG w' w.heap.size w'.heap.size A n c rows) (hE : Ext w w') : RetG w rows e w' := by
  have hl := ho.len
  subst hl
  exact ⟨A, c, he, ho, hE⟩
theorem OwG.nil (w : World) (lo hi : Nat) : OwG w lo hi none 0 0 [] := ⟨[], ⟨Ow.nil w lo _, (fun k hk => by cases hk), rfl, (fun i x r hx => by simp at hx), (fun i j x y _ hx => by simp at hx)⟩⟩

/-- How many values a slice of slices holds. -/
def tot : List (List Int) → Nat
  | [] => 0
  | r :: rs => r.length + tot rs
def bulk (rows : List (List Int)) : Nat := rows.length + tot rows
theorem tot_snoc {rows : List (List Int)} {k : Nat} {r : List Int} (h : rows[k]? = some r) : tot (rows.take (k + 1)) = tot (rows.take k) + r.length := by
  have key : ∀ (a : List (List Int)) (r : List Int), tot (a ++ [r]) = tot a + r.length := by
    intro a r; induction a with
    | nil => simp [tot]
    | cons x a ih => simp only [List.cons_append, tot, ih]; omega
  rw [take_snoc_of h, key]
theorem tot_take_le (rows : List (List Int)) (k : Nat) : tot (rows.take k) ≤ tot rows := by
  induction rows generalizing k with
  | nil => simp [tot]
  | cons r rs ih =>
    cases k with
    | zero => simp [tot]
    | succ k => simp only [List.take_succ_cons, tot]; have := ih k; omega
theorem row_le_tot {rows : List (List Int)} {k : Nat} {r : List Int} (h : rows[k]? = some r) : r.length ≤ tot rows := by
  have := tot_snoc h; have := tot_take_le rows (k + 1); omega
/-- The rows marked from k on. -/
def marksG : Int → List (List Int) → List (List Int)
  | _, [] => []
  | k, r :: rs => marks k r.length :: marksG (k + r.length) rs
theorem marksG_len (k : Int) (rows : List (List Int)) : (marksG k rows).length = rows.length := by
  induction rows generalizing k with
  | nil => rfl
  | cons r rs ih => simp [marksG, ih]
theorem marksG_get {rows : List (List Int)} {i : Nat} {r : List Int} (k : Int) (h : rows[i]? = some r) : (marksG k rows)[i]? = some (marks (k + tot (rows.take i)) r.length) := by
  induction rows generalizing k i with
  | nil => simp at h
  | cons x rs ih =>
    cases i with
    | zero => simp at h; subst h; simp [marksG, tot]
    | succ i =>
      simp at h
      simp only [marksG, List.getElem?_cons_succ, List.take_succ_cons, tot]
      rw [ih _ h]
      congr 2
      omega
theorem marksG_tot (k : Int) (rows : List (List Int)) : tot (marksG k rows) = tot rows := by
  induction rows generalizing k with
  | nil => rfl
  | cons r rs ih => simp only [marksG, tot, ih, marks_len]
theorem marksG_set {rows : List (List Int)} {i : Nat} {r : List Int} (k : Int) (h : rows[i]? = some r) :
    ((marksG k rows).take i ++ rows.drop i).set i (marks (k + tot (rows.take i)) r.length) = (marksG k rows).take (i + 1) ++ rows.drop (i + 1) := by
  have hil : i < rows.length := (List.getElem?_eq_some_iff.1 h).1
  have hlk : ((marksG k rows).take i).length = i := by simp [marksG_len]; omega
  rw [List.set_append, if_neg (by omega), hlk, Nat.sub_self, take_snoc_of (marksG_get k h), List.drop_eq_getElem_cons hil, List.set_cons_zero]
  simp
-- info of slices
theorem info_sl : (Tryd.prog.info? 22).map (fun i => (i.zero, i.size, i.bytes)) = some (some (.slice none 0 0), 1, 24) := by kernel_rfl
-- tot of small rows
theorem tot_le {rows : List (List Int)} {m : Nat} (h : ∀ r ∈ rows, r.length ≤ m) : tot rows ≤ rows.length * m := by
  induction rows with
  | nil => simp [tot]
  | cons r rs ih =>
    have h1 := h r (by simp)
    have h2 := ih fun x hx => h x (by simp [hx])
    simp only [tot, List.length_cons, Nat.succ_mul]
    omega

end Go.Proofs.YtgcdicfolmokfaaDoor
