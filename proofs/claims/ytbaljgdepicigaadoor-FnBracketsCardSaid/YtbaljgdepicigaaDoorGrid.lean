/-
  Words for slices of slices of ints, and the laws' helpers on them.
-/
import Derived.Deep.Matrix
import Derived.Test.YtbaljgdepicigaaDoorBase
import Derived.Test.YtbaljgdepicigaaDoorMgA
import Derived.Test.YtbaljgdepicigaaDoorLib
import Derived.Test.YtbaljgdepicigaaDoorAid
namespace Go.Proofs.YtbaljgdepicigaaDoor
open Go.RowKit
set_option linter.unusedVariables false

-- words
/-- A slice as a value. -/
def sv (h : Option Addr × Nat × Nat) : Value := .slice h.1 h.2.1 h.2.2
/-- The slice '.slice A n c' of slices reads as the rows; its cells hold the slices hs. -/
structure GridH (w : World) (A : Option Addr) (n c : Nat) (hs : List (Option Addr × Nat × Nat)) (rows : List (List Int)) : Prop where
  rd : Rd w A n c (hs.map sv)
  hl : hs.length = rows.length
  row : ∀ (i : Nat) h r, hs[i]? = some h → rows[i]? = some r → Ints w h.1 h.2.1 h.2.2 r
def Grid (w : World) (A : Option Addr) (n c : Nat) (rows : List (List Int)) : Prop := ∃ hs, GridH w A n c hs rows
section
variable {w w' : World} {A : Option Addr} {n c : Nat} {hs : List (Option Addr × Nat × Nat)} {rows : List (List Int)}
theorem GridH.len (h : GridH w A n c hs rows) : rows.length = n := by have := h.rd.len; simp at this; rw [← h.hl]; exact this
theorem GridH.ext (h : GridH w A n c hs rows) (hE : Ext w w') : GridH w' A n c hs rows := ⟨h.rd.ext hE, h.hl, fun i x r hx hr => (h.row i x r hx hr).ext hE⟩
theorem Grid.len (h : Grid w A n c rows) : rows.length = n := by obtain ⟨_, h⟩ := h; exact h.len
theorem Grid.le (h : Grid w A n c rows) : n ≤ c := by obtain ⟨_, h⟩ := h; exact h.rd.le
theorem Grid.max (h : Grid w A n c rows) : c ≤ 9223372036854775807 := by obtain ⟨_, h⟩ := h; exact h.rd.max
theorem Grid.ext (h : Grid w A n c rows) (hE : Ext w w') : Grid w' A n c rows := by obtain ⟨_, h⟩ := h; exact ⟨_, h.ext hE⟩
theorem Grid.nil (w : World) : Grid w none 0 0 [] := ⟨[], Rd.nil w, rfl, fun i x r hx => by simp at hx⟩
theorem Grid.take (h : Grid w A n c rows) {k : Nat} (hk : k ≤ n) : Grid w A k c (rows.take k) := by
  obtain ⟨hs, h⟩ := h
  refine ⟨hs.take k, by rw [List.map_take]; exact h.rd.take hk, by simp [h.hl], fun i x r hx hr => ?_⟩
  rw [List.getElem?_take] at hx hr
  split at hx
  · rename_i hlt; rw [if_pos hlt] at hr; exact h.row i x r hx hr
  · cases hx
theorem Grid.drop (h : Grid w A n c rows) {k : Nat} (hk : k ≤ n) : Grid w (tailA A c k) (n - k) (c - k) (rows.drop k) := by
  obtain ⟨hs, h⟩ := h
  refine ⟨hs.drop k, by rw [List.map_drop]; exact h.rd.drop hk (fun e => by rw [tailA, if_neg e]), by simp [h.hl], fun i x r hx hr => ?_⟩
  rw [List.getElem?_drop] at hx hr
  exact h.row _ x r hx hr
theorem Grid.get (h : Grid w A n c rows) {k : Nat} (hk : k < n) : ∃ b off B d r, A = some ⟨b, off, none⟩ ∧ b < w.heap.size ∧ rows[k]? = some r ∧ w.cell? ⟨b, off + k, none⟩ = some (.slice B r.length d) ∧ Ints w B r.length d r := by
  obtain ⟨hs, h⟩ := h
  obtain ⟨b, off, v, e, hb, hv, hc⟩ := h.rd.get hk
  rw [List.getElem?_map] at hv
  have hkr : k < rows.length := by rw [h.len]; exact hk
  have hkh : k < hs.length := by rw [h.hl]; exact hkr
  rw [List.getElem?_eq_getElem hkh] at hv
  simp at hv
  have hr := h.row k hs[k] rows[k] (List.getElem?_eq_getElem hkh) (List.getElem?_eq_getElem hkr)
  have hln := hr.len
  refine ⟨b, off, hs[k].1, hs[k].2.2, rows[k], e, hb, List.getElem?_eq_getElem hkr, ?_, by rw [hln]; exact hr⟩
  rw [hc, ← hv, hln]; rfl
end

/-- The same of the call's own: all its blocks lie between lo and hi, and differ. -/
structure OwGH (w : World) (lo hi : Nat) (A : Option Addr) (n c : Nat) (hs : List (Option Addr × Nat × Nat)) (rows : List (List Int)) : Prop where
  ow : Ow w lo 23 A n c (hs.map sv)
  top : ∀ k, A.map (·.block) = some k → k < hi
  hl : hs.length = rows.length
  row : ∀ (i : Nat) h r, hs[i]? = some h → rows[i]? = some r → InI w lo hi h.1 h.2.1 h.2.2 r
  apart : ∀ (i j : Nat) h h', i ≠ j → hs[i]? = some h → hs[j]? = some h' → h.1.map (·.block) ≠ h'.1.map (·.block) ∨ h.1 = none
def OwG (w : World) (lo hi : Nat) (A : Option Addr) (n c : Nat) (rows : List (List Int)) : Prop := ∃ hs, OwGH w lo hi A n c hs rows
section
variable {w w' : World} {lo hi : Nat} {A : Option Addr} {n c : Nat} {hs : List (Option Addr × Nat × Nat)} {rows : List (List Int)}
theorem OwGH.grid (h : OwGH w lo hi A n c hs rows) : GridH w A n c hs rows := ⟨h.ow.rd, h.hl, fun i x r hx hr => (h.row i x r hx hr).ints⟩
theorem OwG.grid (h : OwG w lo hi A n c rows) : Grid w A n c rows := by obtain ⟨hs, h⟩ := h; exact ⟨hs, h.grid⟩
theorem OwG.len (h : OwG w lo hi A n c rows) : rows.length = n := h.grid.len
theorem OwGH.only {l u : Nat} (h : OwGH w lo hi A n c hs rows) (ho : Only l u w w') (hd : hi ≤ l ∨ u ≤ lo) : OwGH w' lo hi A n c hs rows :=
  ⟨h.ow.keep fun k hk => ho.block k (h.ow.block k hk).2 (by have := (h.ow.block k hk).1; have := h.top k hk; omega), h.top, h.hl, fun i x r hx hr => (h.row i x r hx hr).only ho hd, h.apart⟩
theorem OwGH.ext (h : OwGH w lo hi A n c hs rows) (hE : Ext w w') : OwGH w' lo hi A n c hs rows :=
  ⟨h.ow.ext hE, h.top, h.hl, fun i x r hx hr => (h.row i x r hx hr).ext hE, h.apart⟩
theorem OwG.only {l u : Nat} (h : OwG w lo hi A n c rows) (ho : Only l u w w') (hd : hi ≤ l ∨ u ≤ lo) : OwG w' lo hi A n c rows := by obtain ⟨hs, h⟩ := h; exact ⟨hs, h.only ho hd⟩
theorem OwG.ext (h : OwG w lo hi A n c rows) (hE : Ext w w') : OwG w' lo hi A n c rows := by obtain ⟨hs, h⟩ := h; exact ⟨hs, h.ext hE⟩
theorem InI.mono {lo' hi' : Nat} {xs : List Int} (h : InI w lo hi A n c xs) (hl : lo' ≤ lo) (hu : hi ≤ hi') : InI w lo' hi' A n c xs := ⟨h.ow.mono hl, fun k hk => by have := h.top k hk; omega⟩
theorem OwG.mono {lo' hi' : Nat} (h : OwG w lo hi A n c rows) (hl : lo' ≤ lo) (hu : hi ≤ hi') : OwG w lo' hi' A n c rows := by
  obtain ⟨hs, h⟩ := h
  exact ⟨hs, h.ow.mono hl, fun k hk => by have := h.top k hk; omega, h.hl, fun i x r hx hr => (h.row i x r hx hr).mono hl hu, h.apart⟩
/-- Blocks of ints and blocks of slices differ. -/
theorem OwGH.ne_row (h : OwGH w lo hi A n c hs rows) {i : Nat} {x : Option Addr × Nat × Nat} {r : List Int} (hx : hs[i]? = some x) (hr : rows[i]? = some r) :
    A.map (·.block) ≠ x.1.map (·.block) ∨ A = none := by
  rcases h.ow.own with ⟨e, _⟩ | ⟨b, off, cur, e, _, hh, _⟩
  · exact .inr e
  · refine .inl fun e2 => ?_
    rcases (h.row i x r hx hr).ow.ow.own with ⟨e3, _⟩ | ⟨b', off', cur', e3, _, hh', _⟩
    · rw [e, e3] at e2; cases e2
    · rw [e, e3] at e2
      simp at e2
      subst e2
      rw [hh] at hh'
      injection hh' with hh'
      injection hh' with _ ht
      exact absurd ht (by decide)
/-- One row is written. -/
theorem OwGH.set_row (h : OwGH w lo hi A n c hs rows) {i : Nat} {x : Option Addr × Nat × Nat} {r r' : List Int} (hx : hs[i]? = some x) (hr : rows[i]? = some r)
    (ho : OwI w' lo x.1 x.2.1 x.2.2 r') (hg : w.grownBy w' (x.1.map (·.block))) : OwGH w' lo hi A n c hs (rows.set i r') := by
  refine ⟨h.ow.grown hg (h.ne_row hx hr), h.top, by rw [List.length_set]; exact h.hl, fun j y s hy hs' => ?_, h.apart⟩
  rw [List.getElem?_set] at hs'
  by_cases e : i = j
  · subst e
    have hi : i < rows.length := (List.getElem?_eq_some_iff.1 hr).1
    rw [if_pos rfl, if_pos hi] at hs'
    cases hs'
    rw [hx] at hy
    cases hy
    exact ho.marked (h.row i x r hx hr)
  · rw [if_neg e] at hs'
    have hy' := h.row j y s hy hs'
    exact ⟨hy'.ow.grown hg (h.apart j i y x (fun e2 => e e2.symm) hy hx), hy'.top⟩
end

/-- A new slice of slices comes back. -/
def RetG (w : World) (rows : List (List Int)) (e : Ending) (w' : World) : Prop := ∃ A c, e = .returned (.slice A rows.length c) ∧ OwG w' w.heap.size w'.heap.size A rows.length c rows ∧ Ext w w'
theorem RetG.mk {w w' : World} {rows : List (List Int)} {e : Ending} {A : Option Addr} {n c : Nat} (he : e = .returned (.slice A n c)) (ho : OwG w' w.heap.size w'.heap.size A n c rows) (hE : Ext w w') : RetG w rows e w' := by
  have hl := ho.len
  subst hl
  exact ⟨A, c, he, ho, hE⟩
theorem OwG.nil (w : World) (lo hi : Nat) : OwG w lo hi none 0 0 [] := ⟨[], ⟨Ow.nil w lo _, (fun k hk => by cases hk), rfl, (fun i x r hx => by simp at hx), (fun i j x y _ hx => by simp at hx)⟩⟩

/-- How many values a slice of slices holds. -/
def tot : List (List Int) → Nat
  | [] => 0
  | r :: rs => r.length + tot rs
def bulk (rows : List (List Int)) : Nat := rows.length + tot rows
theorem tot_snoc {rows : List (List Int)} {k : Nat} {r : List Int} (h : rows[k]? = some r) : tot (rows.take (k + 1)) = tot (rows.take k) + r.length := by
  have key : ∀ (a : List (List Int)) (r : List Int), tot (a ++ [r]) = tot a + r.length := by
    intro a r; induction a with
    | nil => simp [tot]
    | cons x a ih => simp only [List.cons_append, tot, ih]; omega
  rw [take_snoc_of h, key]
theorem tot_take_le (rows : List (List Int)) (k : Nat) : tot (rows.take k) ≤ tot rows := by
  induction rows generalizing k with
  | nil => simp [tot]
  | cons r rs ih =>
    cases k with
    | zero => simp [tot]
    | succ k => simp only [List.take_succ_cons, tot]; have := ih k; omega
theorem row_le_tot {rows : List (List Int)} {k : Nat} {r : List Int} (h : rows[k]? = some r) : r.length ≤ tot rows := by
  have := tot_snoc h; have := tot_take_le rows (k + 1); omega
/-- The rows marked from k on. -/
def marksG : Int → List (List Int) → List (List Int)
  | _, [] => []
  | k, r :: rs => marks k r.length :: marksG (k + r.length) rs
theorem marksG_len (k : Int) (rows : List (List Int)) : (marksG k rows).length = rows.length := by
  induction rows generalizing k with
  | nil => rfl
  | cons r rs ih => simp [marksG, ih]
theorem marksG_get {rows : List (List Int)} {i : Nat} {r : List Int} (k : Int) (h : rows[i]? = some r) : (marksG k rows)[i]? = some (marks (k + tot (rows.take i)) r.length) := by
  induction rows generalizing k i with
  | nil => simp at h
  | cons x rs ih =>
    cases i with
    | zero => simp at h; subst h; simp [marksG, tot]
    | succ i =>
      simp at h
      simp only [marksG, List.getElem?_cons_succ, List.take_succ_cons, tot]
      rw [ih _ h]
      congr 2
      omega
theorem marksG_tot (k : Int) (rows : List (List Int)) : tot (marksG k rows) = tot rows := by
  induction rows generalizing k with
  | nil => rfl
  | cons r rs ih => simp only [marksG, tot, ih, marks_len]
theorem marksG_set {rows : List (List Int)} {i : Nat} {r : List Int} (k : Int) (h : rows[i]? = some r) :
    ((marksG k rows).take i ++ rows.drop i).set i (marks (k + tot (rows.take i)) r.length) = (marksG k rows).take (i + 1) ++ rows.drop (i + 1) := by
  have hil : i < rows.length := (List.getElem?_eq_some_iff.1 h).1
  have hlk : ((marksG k rows).take i).length = i := by simp [marksG_len]; omega
  rw [List.set_append, if_neg (by omega), hlk, Nat.sub_self, take_snoc_of (marksG_get k h), List.drop_eq_getElem_cons hil, List.set_cons_zero]
  simp
-- info of slices
theorem info_sl : (Tryd.prog.info? 23).map (fun i => (i.zero, i.size, i.bytes)) = some (some (.slice none 0 0), 1, 24) := by kernel_rfl
-- frame
open Go.Deep in
theorem grid_of_open {H : Type} {enc : TypeId × Value → H} {w : World} {base : Nat} {held : Bool} {fuel : Nat} {A : Option Addr} {n c : Nat} {x : DataW H × List MemPlace}
    (h : DataW.trod enc Tryd.prog w base (fun _ => true) held fuel 94 [.slice A n c] = some x) : ∃ zs, Grid w A n c zs := by
  rcases open_int_rows Tryd.underlying94 Tryd.underlying23 Tryd.underlying3 (by kernel_rfl) (by kernel_rfl) h with ⟨hcs, _⟩ | ⟨a, len, cap, A', L, C, Z, hcs, _, hl, hm, _, hr⟩
  · simp at hcs
    obtain ⟨rfl, rfl, rfl⟩ := hcs
    exact ⟨[], Grid.nil _⟩
  · simp at hcs
    obtain ⟨rfl, rfl, rfl⟩ := hcs
    refine ⟨(List.range n).map fun r => (Z r).take (L r), (List.range n).map fun r => (A' r, L r, C r), ⟨by simp, hl, by simp only [maxLen] at hm; omega, fun h0 => ?_⟩, by simp, fun i x r hx hr' => ?_⟩
    · have h1 := (hr 0 (by omega)).1
      have hs : a.spot = none := by
        simp only [Addr.add_zero', World.cell?] at h1
        split at h1
        · split at h1
          · cases h1
          · rename_i hs; simpa using hs
        · cases h1
      obtain ⟨b, off, spot⟩ := a
      cases hs
      refine ⟨b, off, rfl, World.block_lt_of_cell? w _ (by simpa using h1), fun k v hv => ?_⟩
      have hk : k < n := by
        have := (List.getElem?_eq_some_iff.1 hv).1
        simpa using this
      have h2 := (hr k (by omega)).1
      rw [Addr.add_lit] at h2
      rw [h2, ← hv]
      simp [hk, sv]
    · have hi : i < n := by
        have := (List.getElem?_eq_some_iff.1 hx).1
        simpa using this
      simp [hi] at hx hr'
      subst hx
      subst hr'
      obtain ⟨_, h2, h3, h4, h5, h6, h7⟩ := hr i (by omega)
      dsimp only
      cases hA : A' i with
      | none =>
        have hc0 := h6 hA
        have hl0 : L i = 0 := by omega
        rw [hl0, hc0, List.take_zero]
        exact Ints.nil _
      | some a' => exact ints_of_open h2 h3 h4 (fun j hj => by rw [h4] at hj; exact (h7 a' hA).2 j hj) h5
-- push rows
/-- A row that the call made is appended to the rows that the call made. -/
theorem OwG.pushed {w0 w w' : World} {lo : Nat} {A A' B : Option Addr} {n c c' m d : Nat} {hs : List (Option Addr × Nat × Nat)} {rows : List (List Int)} {r : List Int} (h : OwGH w0 lo w0.heap.size A n c hs rows) (hE : Ext w0 w) (hB : OwI w w0.heap.size B m d r)
    (hn : Ow w' lo 23 A' (n + 1) c' (hs.map sv ++ [.slice B m d])) (hg : w.grownBy w' (A.map (·.block))) (hlo : lo ≤ w0.heap.size)
    : OwG w' lo w'.heap.size A' (n + 1) c' (rows ++ [r]) := by
  have hsz := hE.size
  have hsz2 := hg.size
  have hln : hs.length = n := by have := h.ow.len; simpa using this
  have hrn : rows.length = n := by rw [← h.hl]; exact hln
  have hold : ∀ (i : Nat) x s, hs[i]? = some x → rows[i]? = some s → InI w' lo w0.heap.size x.1 x.2.1 x.2.2 s := fun i x s hx hs' => by
    have h3 := h.row i x s hx hs'
    refine ⟨(h3.ow.ext hE).grown hg ?_, h3.top⟩
    rcases h.ne_row hx hs' with h4 | h4
    · exact .inl fun e => h4 e.symm
    · subst h4
      cases hx1 : x.1 with
      | none => exact .inr rfl
      | some a => exact .inl (by simp)
  have hnew : OwI w' lo B m d r := (hB.grown hg (by
    cases hA : A.map (·.block) with
    | none =>
      cases hB1 : B with
      | none => exact .inr rfl
      | some a => exact .inl (by simp)
    | some q =>
      cases hB1 : B with
      | none => exact .inr rfl
      | some a =>
        refine .inl fun e => ?_
        have h5 := h.top q hA
        have h6 := (hB.block a.block (by rw [hB1]; rfl)).1
        simp at e
        omega)).mono hlo
  have hcase : ∀ (q : Nat) (z : Option Addr × Nat × Nat), (hs ++ [(B, m, d)])[q]? = some z → (q < n ∧ hs[q]? = some z) ∨ (q = n ∧ z = (B, m, d)) := by
    intro q z hz
    by_cases e : q < n
    · rw [List.getElem?_append_left (by omega)] at hz; exact .inl ⟨e, hz⟩
    · have hqk : q = n := by
        have := (List.getElem?_eq_some_iff.1 hz).1
        simp at this; omega
      subst hqk
      rw [List.getElem?_append_right (by omega), hln, Nat.sub_self] at hz
      simp at hz
      exact .inr ⟨rfl, hz.symm⟩
  have hap : ∀ (i : Nat) x s, hs[i]? = some x → rows[i]? = some s → x.1.map (·.block) ≠ B.map (·.block) ∨ x.1 = none := fun i x s hx hs' => by
    cases hA : x.1.map (·.block) with
    | none => exact .inr (by cases hx1 : x.1 <;> simp_all)
    | some q =>
      refine .inl fun e2 => ?_
      have := (h.row i x s hx hs').top q hA
      have := (hB.block q e2.symm).1
      omega
  have hrow : ∀ i, i < n → ∃ s, rows[i]? = some s := fun i hi => ⟨_, List.getElem?_eq_getElem (by omega)⟩
  refine ⟨hs ++ [(B, m, d)], ⟨by simpa [sv] using hn, fun k hk => (hn.block k hk).2, by simp [h.hl], fun i x s hx hs' => ?_, fun i j x y hij hx hy => ?_⟩⟩
  · rcases hcase i x hx with ⟨hi, hx'⟩ | ⟨rfl, rfl⟩
    · rw [List.getElem?_append_left (by omega)] at hs'
      exact (hold i x s hx' hs').mono (Nat.le_refl _) (by omega)
    · rw [List.getElem?_append_right (by omega), hrn, Nat.sub_self] at hs'
      simp at hs'
      subst hs'
      exact ⟨hnew, fun k hk => (hnew.block k hk).2⟩
  · rcases hcase i x hx with ⟨hi, hx'⟩ | ⟨rfl, rfl⟩ <;> rcases hcase j y hy with ⟨hj, hy'⟩ | ⟨rfl, rfl⟩
    · exact h.apart i j x y hij hx' hy'
    · obtain ⟨s, hs'⟩ := hrow i hi
      exact hap i x s hx' hs'
    · obtain ⟨s, hs'⟩ := hrow j hj
      rcases hap j y s hy' hs' with h7 | h7
      · exact .inl fun e => h7 e.symm
      · cases hB1 : B with
        | none => exact .inr rfl
        | some a => exact .inl (by rw [h7]; simp)
    · exact absurd rfl hij
theorem push_row {ops : Array Oper} {rest : List Oper} {o : Oper} {a : Act} {Q : Exit → Act → World → Prop} {w0 w : World} {lo : Nat} {A B : Option Addr} {n c m d : Nat} {rows : List (List Int)} {r : List Int} (hgd : o.guard = none) (s x : Operand)
    (ho : o.op = .call { callee := .builtin .append, args := #[s, x], argTypes := #[94, 94] })
    (hs : a.eval s = .slice A n c) (h : OwG w0 lo w0.heap.size A n c rows) (hE : Ext w0 w) (hB : OwI w w0.heap.size B m d r) (X : Nat) (hx : a.eval x = .slice (some ⟨X, 0, none⟩) 1 1) (hX : w.cell? ⟨X, 0, none⟩ = some (.slice B m d))
    (hsz : n + 1 ≤ 1073741824) (hlo : lo ≤ w0.heap.size)
    (hk : ∀ A' c' w', OwG w' lo w'.heap.size A' (n + 1) c' (rows ++ [r]) → (∀ z : World, Ext z w → z.heap.size ≤ lo → Ext z w') → wpList Tryd.prog ops Q rest (a.put o.dst (.slice A' (n + 1) c')) w') : wpList Tryd.prog ops Q (o :: rest) a w := by
  obtain ⟨hs1, h⟩ := h
  obtain ⟨i0, hi0, hz0, hz1, hz2⟩ := info_parts info_sl
  refine wpList_push_any hgd s x 94 ho i0 _ 24 Tryd.underlying94 hi0 hz0 hz1 hz2 rfl hs (h.ow.ext hE) (some ⟨X, 0, none⟩) 1 1 [.slice B m d] hx
    ⟨rfl, Nat.le_refl _, by omega, fun _ => ⟨X, 0, rfl, World.block_lt_of_cell? w _ hX, fun k v hv => ?_⟩⟩ (by simp [Value.oneCell']) (by omega) (by omega) (by have := hE.size; omega) ?_
  · match k with
    | 0 => simp at hv; subst hv; exact hX
    | k + 1 => simp at hv
  · intro A' c' w' h1 h2 h3
    refine hk A' c' w' (OwG.pushed h hE hB h1 h2 hlo) fun z hz hl => hz.grown h2 fun k hk' => ?_
    have := (h.ow.block k hk').1
    omega
theorem step_push_row {ops : Array Oper} {o : Oper} {a : Act} {K : Act → World → Prop} {Q : Exit → Act → World → Prop} {F : Prop} {w0 w : World} {lo : Nat} {A B : Option Addr} {n c m d : Nat} {rows : List (List Int)} {r : List Int} (hgd : o.guard = none) (s x : Operand)
    (ho : o.op = .call { callee := .builtin .append, args := #[s, x], argTypes := #[94, 94] })
    (hs : a.eval s = .slice A n c) (h : OwG w0 lo w0.heap.size A n c rows) (hE : Ext w0 w) (hB : OwI w w0.heap.size B m d r) (X : Nat) (hx : a.eval x = .slice (some ⟨X, 0, none⟩) 1 1) (hX : w.cell? ⟨X, 0, none⟩ = some (.slice B m d))
    (hsz : n + 1 ≤ 1073741824) (hlo : lo ≤ w0.heap.size)
    (hk : ∀ A' c' w', OwG w' lo w'.heap.size A' (n + 1) c' (rows ++ [r]) → (∀ z : World, Ext z w → z.heap.size ≤ lo → Ext z w') → K (a.put o.dst (.slice A' (n + 1) c')) w') : if Region.wanted o (yielded ops a.tmps) = true then Oper.wp Tryd.prog o a w K Q else F := by
  obtain ⟨hs1, h⟩ := h
  obtain ⟨i0, hi0, hz0, hz1, hz2⟩ := info_parts info_sl
  refine step_push_any hgd s x 94 ho i0 _ 24 Tryd.underlying94 hi0 hz0 hz1 hz2 rfl hs (h.ow.ext hE) (some ⟨X, 0, none⟩) 1 1 [.slice B m d] hx
    ⟨rfl, Nat.le_refl _, by omega, fun _ => ⟨X, 0, rfl, World.block_lt_of_cell? w _ hX, fun k v hv => ?_⟩⟩ (by simp [Value.oneCell']) (by omega) (by omega) (by have := hE.size; omega) ?_
  · match k with
    | 0 => simp at hv; subst hv; exact hX
    | k + 1 => simp at hv
  · intro A' c' w' h1 h2 h3
    refine hk A' c' w' (OwG.pushed h hE hB h1 h2 hlo) fun z hz hl => hz.grown h2 fun k hk' => ?_
    have := (h.ow.block k hk').1
    omega
-- tot of small rows
theorem tot_le {rows : List (List Int)} {m : Nat} (h : ∀ r ∈ rows, r.length ≤ m) : tot rows ≤ rows.length * m := by
  induction rows with
  | nil => simp [tot]
  | cons r rs ih =>
    have h1 := h r (by simp)
    have h2 := ih fun x hx => h x (by simp [hx])
    simp only [tot, List.length_cons, Nat.succ_mul]
    omega

end Go.Proofs.YtbaljgdepicigaaDoor
