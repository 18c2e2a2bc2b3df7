/-
  Words for memory: what one call leaves of old memory, slices that are read, slices that the call owns, append, make.
-/
import Derived.Test.YtbaljgdepicigaaDoorRows
import Derived.WalkKit
import Derived.WalkSpells
import Derived.WalkLawsBesides
import Derived.BigQuiet
import Derived.Deep.QuietTactic
import Derived.RegionTactic

namespace Go.Proofs.YtbaljgdepicigaaDoor
open Go.RowKit
set_option linter.unusedVariables false

theorem hide {p : Prop} (h : p) : Hid p := h
theorem ret_int {k : IntKind} {a b : Int} (h : a = b) : Ending.returned (.int k a) = .returned (.int k b) := by rw [h]
theorem ret_bool {a b : Bool} (h : a = b) : Ending.returned (.bool a) = .returned (.bool b) := by rw [h]

/-- The range of Go's int. -/
def I64 (x : Int) : Prop := -9223372036854775808 ≤ x ∧ x ≤ 9223372036854775807

/-- What was there is as it was; blocks may have come. -/
def Ext (w w' : World) : Prop := Below w.heap.size w w'
section
variable {a b c w w' : World}
theorem Ext.refl (w : World) : Ext w w := Below.refl _ _
theorem Ext.trans (h : Ext a b) (k : Ext b c) : Ext a c := Below.trans h (Below.mono k h.size)
theorem Ext.size (h : Ext a b) : a.heap.size ≤ b.heap.size := Below.size h
theorem Ext.drew (h : Ext a b) : Ext a b.drew := Below.drew h
theorem Ext.drewN (h : Ext a b) (n : Nat) : Ext a (b.drewN n) := ⟨h.os, h.tape, h.output, h.size, h.block⟩
theorem Ext.alloc (h : Ext a b) (o : Obj) : Ext a (b.alloc o) := Below.alloc h (Ext.size h) o
theorem Ext.setCell (h : Ext a b) {p : Addr} (hp : a.heap.size ≤ p.block) (u : Value) : Ext a (b.setCell p u) := Below.setCell h hp u
theorem Ext.grown {row : Option Nat} (h : Ext a b) (hg : b.grownBy c row) (hr : ∀ k, row = some k → a.heap.size ≤ k) : Ext a c := Below.grown h hg (Ext.size h) hr
theorem Ext.cell (h : Ext a b) {p : Addr} (hp : p.block < a.heap.size) : b.cell? p = a.cell? p := Below.cell h hp
theorem Ext.frozen (h : Ext a b) {p : Addr} (hp : p.block < a.heap.size) : b.frozen? p = a.frozen? p := Below.frozen h hp
theorem Ext.block (h : Ext a b) {k : Nat} (hk : k < a.heap.size) : b.heap[k]? = a.heap[k]? := Below.block h k hk
theorem Ext.get (h : Ext a b) {k o : Nat} {v : Value} (hc : a.cell? ⟨k, o, none⟩ = some v) : b.cell? ⟨k, o, none⟩ = some v :=
  (h.cell (World.block_lt_of_cell? a ⟨k, o, none⟩ hc)).trans hc
theorem Ext.below (h : Ext a b) : Below a.heap.size a b := h
theorem Ext.one (w : World) (o : Obj) : Ext w (w.alloc o) := (Ext.refl w).alloc o
theorem Ext.by_ (h : w.grownBy w' none) : Ext w w' := (Ext.refl w).grown h (fun _ e => by cases e)
theorem Ext.by_new {k : Nat} (h : w.grownBy w' (some k)) (hk : w.heap.size ≤ k) : Ext w w' := (Ext.refl w).grown h (fun _ e => by cases e; exact hk)
/-- A struct parameter's box, behind calls. -/
theorem Ext.box2 {x y : Value} {t : TypeId} (h : Ext (w.alloc (.cells #[x, y] t)) w') :
    w'.cell? ⟨w.heap.size, 0, none⟩ = some x ∧ w'.cell? ⟨w.heap.size, 1, none⟩ = some y ∧ w.heap.size < w'.heap.size := by
  have hs := h.size
  have e : (w.alloc (.cells #[x, y] t)).heap.size = w.heap.size + 1 := by simp
  have hb : (w.alloc (.cells #[x, y] t)).heap[w.heap.size]? = some (.cells #[x, y] t (0, 0)) := heap_alloc_new w _
  refine ⟨h.get ?_, h.get ?_, by omega⟩
  · rw [cell_of_row _ _ 0 _ _ _ hb]; rfl
  · rw [cell_of_row _ _ 1 _ _ _ hb]; rfl
theorem Ext.box1 {x : Value} {t : TypeId} (h : Ext (w.alloc (.cells #[x] t)) w') :
    w'.cell? ⟨w.heap.size, 0, none⟩ = some x ∧ w.heap.size < w'.heap.size := by
  have hs := h.size
  have e : (w.alloc (.cells #[x] t)).heap.size = w.heap.size + 1 := by simp
  have hb : (w.alloc (.cells #[x] t)).heap[w.heap.size]? = some (.cells #[x] t (0, 0)) := heap_alloc_new w _
  refine ⟨h.get ?_, by omega⟩
  rw [cell_of_row _ _ 0 _ _ _ hb]; rfl
end

theorem grown_refl (w : World) (row : Option Nat) : w.grownBy w row := World.grownBy.refl w row
theorem grown_trans {a b c : World} {r r' : Option Nat} (h : a.grownBy b r) (k : b.grownBy c r') (hr : r' = none ∨ r' = r ∨ ∃ g, r' = some g ∧ a.heap.size ≤ g) : a.grownBy c r :=
  ⟨k.os.trans h.os, k.tape.trans h.tape, k.output.trans h.output, Nat.le_trans h.size k.size, fun i hi hn => (k.block i (Nat.lt_of_lt_of_le hi h.size) (by
    rcases hr with rfl | rfl | ⟨g, rfl, hg⟩
    · simp
    · exact hn
    · intro e; cases e; omega)).trans (h.block i hi hn)⟩
theorem Ext.to_grown {a b : World} (h : Ext a b) (row : Option Nat) : a.grownBy b row := ⟨h.os, h.tape, h.output, h.size, fun i hi _ => Ext.block h hi⟩
theorem grown_setCell (w : World) (p : Addr) (u : Value) : w.grownBy (w.setCell p u) (some p.block) :=
  ⟨rfl, rfl, rfl, by simp [World.setCell], fun k _ hk => Below.heap_setCell w p u k (fun e => hk (by rw [e]))⟩
theorem grown_drew (w : World) (row : Option Nat) : w.grownBy w.drew row := ⟨rfl, rfl, rfl, Nat.le_refl _, fun _ _ _ => rfl⟩

/-! ### A slice that is read: '.slice A n c' holds the cells vs -/
structure Rd (w : World) (A : Option Addr) (n c : Nat) (vs : List Value) : Prop where
  len : vs.length = n
  le : n ≤ c
  max : c ≤ 9223372036854775807
  at_ : 0 < n → ∃ b off, A = some ⟨b, off, none⟩ ∧ b < w.heap.size ∧ ∀ k v, vs[k]? = some v → w.cell? ⟨b, off + k, none⟩ = some v
section
variable {w w' : World} {A : Option Addr} {n c : Nat} {vs : List Value}
theorem Rd.nil (w : World) : Rd w none 0 0 [] := ⟨rfl, Nat.le_refl _, by omega, fun h => absurd h (by omega)⟩
theorem Rd.keep (h : Rd w A n c vs) (hs : w.heap.size ≤ w'.heap.size) (hk : ∀ p : Addr, A.map (·.block) = some p.block → p.block < w.heap.size → w'.cell? p = w.cell? p) : Rd w' A n c vs :=
  ⟨h.len, h.le, h.max, fun h0 => by
    obtain ⟨b, off, e, hb, hc⟩ := h.at_ h0
    exact ⟨b, off, e, by omega, fun k v hv => (hk ⟨b, off + k, none⟩ (by rw [e]; rfl) hb).trans (hc k v hv)⟩⟩
theorem Rd.ext (h : Rd w A n c vs) (hE : Ext w w') : Rd w' A n c vs := h.keep hE.size fun _ _ hb => hE.cell hb
theorem Rd.grown {row : Option Nat} (h : Rd w A n c vs) (hg : w.grownBy w' row) (hr : A.map (·.block) ≠ row ∨ A = none) : Rd w' A n c vs :=
  h.keep hg.size fun p hp hb => World.cell?_of_block (hg.block p.block hb (by
    rcases hr with hr | rfl
    · rw [← hp]; exact hr
    · cases hp))
theorem Rd.take (h : Rd w A n c vs) {k : Nat} (hk : k ≤ n) : Rd w A k c (vs.take k) where
  len := by have := h.len; simp; omega
  le := by have := h.le; omega
  max := h.max
  at_ := fun h0 => by
    obtain ⟨b, off, e, hb, hc⟩ := h.at_ (by omega)
    refine ⟨b, off, e, hb, fun j x hx => hc j x ?_⟩
    rw [List.getElem?_take] at hx
    split at hx
    · exact hx
    · cases hx
theorem Rd.drop (h : Rd w A n c vs) {k : Nat} (hk : k ≤ n) {A' : Option Addr} (hA : c ≠ k → A' = A.map (·.add k)) : Rd w A' (n - k) (c - k) (vs.drop k) where
  len := by have := h.len; simp; omega
  le := by have := h.le; omega
  max := by have := h.max; omega
  at_ := fun h0 => by
    obtain ⟨b, off, e, hb, hc⟩ := h.at_ (by omega)
    refine ⟨b, off + k, by rw [hA (by have := h.le; omega), e]; simp [Addr.add_lit], hb, fun j x hx => ?_⟩
    rw [List.getElem?_drop] at hx
    have := hc _ _ hx
    rwa [Nat.add_assoc]
theorem Rd.get (h : Rd w A n c vs) {k : Nat} (hk : k < n) : ∃ b off v, A = some ⟨b, off, none⟩ ∧ b < w.heap.size ∧ vs[k]? = some v ∧ w.cell? ⟨b, off + k, none⟩ = some v := by
  obtain ⟨b, off, e, hb, hc⟩ := h.at_ (by omega)
  have hl : k < vs.length := by have := h.len; omega
  exact ⟨b, off, vs[k], e, hb, List.getElem?_eq_getElem hl, hc k _ (List.getElem?_eq_getElem hl)⟩
end

/-! ### A slice of ints that is read -/
structure Ints (w : World) (A : Option Addr) (n c : Nat) (xs : List Int) : Prop where
  rd : Rd w A n c (xs.map (Value.int .i64))
  wf : ∀ x ∈ xs, I64 x
section
variable {w w' : World} {A : Option Addr} {n c : Nat} {xs : List Int}
theorem Ints.len (h : Ints w A n c xs) : xs.length = n := by simpa using h.rd.len
theorem Ints.le (h : Ints w A n c xs) : n ≤ c := h.rd.le
theorem Ints.max (h : Ints w A n c xs) : c ≤ 9223372036854775807 := h.rd.max
theorem Ints.nil (w : World) : Ints w none 0 0 [] := ⟨Rd.nil w, by simp⟩
theorem Ints.ext (h : Ints w A n c xs) (hE : Ext w w') : Ints w' A n c xs := ⟨h.rd.ext hE, h.wf⟩
theorem Ints.grown {row : Option Nat} (h : Ints w A n c xs) (hg : w.grownBy w' row) (hr : A.map (·.block) ≠ row ∨ A = none) : Ints w' A n c xs := ⟨h.rd.grown hg hr, h.wf⟩
theorem Ints.take (h : Ints w A n c xs) {k : Nat} (hk : k ≤ n) : Ints w A k c (xs.take k) :=
  ⟨by rw [List.map_take]; exact h.rd.take hk, fun x hx => h.wf x (List.mem_of_mem_take hx)⟩
theorem Ints.drop (h : Ints w A n c xs) {k : Nat} (hk : k ≤ n) {A' : Option Addr} (hA : c ≠ k → A' = A.map (·.add k)) : Ints w A' (n - k) (c - k) (xs.drop k) :=
  ⟨by rw [List.map_drop]; exact h.rd.drop hk hA, fun x hx => h.wf x (List.mem_of_mem_drop hx)⟩
theorem Ints.get (h : Ints w A n c xs) {k : Nat} (hk : k < n) :
    ∃ b off x, A = some ⟨b, off, none⟩ ∧ b < w.heap.size ∧ xs[k]? = some x ∧ I64 x ∧ w.cell? ⟨b, off + k, none⟩ = some (.int .i64 x) := by
  obtain ⟨b, off, v, e, hb, hv, hc⟩ := h.rd.get hk
  rw [List.getElem?_map] at hv
  cases hx : xs[k]? with
  | none => simp [hx] at hv
  | some x =>
    simp [hx] at hv
    subst hv
    exact ⟨b, off, x, e, hb, rfl, h.wf x (List.mem_of_getElem? hx), hc⟩
end

/-! ### A slice that the call owns: a part of a block from base on, not frozen -/
structure Ow (w : World) (base E : Nat) (A : Option Addr) (n c : Nat) (vs : List Value) : Prop where
  len : vs.length = n
  le : n ≤ c
  max : c ≤ 9223372036854775807
  own : (A = none ∧ c = 0) ∨ ∃ b off cur, A = some ⟨b, off, none⟩ ∧ base ≤ b ∧ w.heap[b]? = some (.cells cur E (0, 0)) ∧ off + c ≤ cur.size ∧ ∀ k v, vs[k]? = some v → cur[off + k]? = some v
section
variable {w w' : World} {base base' E : Nat} {A : Option Addr} {n c : Nat} {vs : List Value}
theorem Ow.nil (w : World) (base E : Nat) : Ow w base E none 0 0 [] := ⟨rfl, Nat.le_refl _, by omega, .inl ⟨rfl, rfl⟩⟩
theorem Ow.rd (h : Ow w base E A n c vs) : Rd w A n c vs := ⟨h.len, h.le, h.max, fun h0 => by
  rcases h.own with ⟨_, hc⟩ | ⟨b, off, cur, rfl, _, hh, _, hv⟩
  · have := h.le; omega
  · exact ⟨b, off, rfl, (Array.getElem?_eq_some_iff.1 hh).1, fun k v hk => by rw [cell_of_row _ _ _ _ _ _ hh]; exact hv k v hk⟩⟩
theorem Ow.mono (h : Ow w base E A n c vs) (hb : base' ≤ base) : Ow w base' E A n c vs := ⟨h.len, h.le, h.max, by
  rcases h.own with h1 | ⟨b, off, cur, e, hb', r⟩
  · exact .inl h1
  · exact .inr ⟨b, off, cur, e, by omega, r⟩⟩
theorem Ow.block (h : Ow w base E A n c vs) : ∀ k, A.map (·.block) = some k → base ≤ k ∧ k < w.heap.size := by
  intro k hk
  rcases h.own with ⟨rfl, _⟩ | ⟨b, off, cur, rfl, hb, hh, _⟩
  · cases hk
  · cases hk; exact ⟨hb, (Array.getElem?_eq_some_iff.1 hh).1⟩
theorem Ow.keep (h : Ow w base E A n c vs) (hk : ∀ k, A.map (·.block) = some k → w'.heap[k]? = w.heap[k]?) : Ow w' base E A n c vs := ⟨h.len, h.le, h.max, by
  rcases h.own with h1 | ⟨b, off, cur, rfl, hb, hh, r⟩
  · exact .inl h1
  · exact .inr ⟨b, off, cur, rfl, hb, (hk b rfl).trans hh, r⟩⟩
theorem Ow.ext (h : Ow w base E A n c vs) (hE : Ext w w') : Ow w' base E A n c vs := h.keep fun k hk => hE.block (h.block k hk).2
theorem Ow.grown {row : Option Nat} (h : Ow w base E A n c vs) (hg : w.grownBy w' row) (hr : A.map (·.block) ≠ row ∨ A = none) : Ow w' base E A n c vs :=
  h.keep fun k hk => hg.block k (h.block k hk).2 (by
    rcases hr with hr | rfl
    · rw [← hk]; exact hr
    · cases hk)
theorem Ow.take (h : Ow w base E A n c vs) {k : Nat} (hk : k ≤ n) : Ow w base E A k c (vs.take k) := ⟨by have := h.len; simp; omega, by have := h.le; omega, h.max, by
  rcases h.own with h1 | ⟨b, off, cur, rfl, hb, hh, hs, hv⟩
  · exact .inl h1
  · refine .inr ⟨b, off, cur, rfl, hb, hh, hs, fun j x hx => hv j x ?_⟩
    rw [List.getElem?_take] at hx
    split at hx
    · exact hx
    · cases hx⟩
theorem Ow.drop (h : Ow w base E A n c vs) {k : Nat} (hk : k ≤ n) {A' : Option Addr} (hA : A' = if c = k then A else A.map (·.add k)) : Ow w base E A' (n - k) (c - k) (vs.drop k) := ⟨by have := h.len; simp; omega, by have := h.le; omega, by have := h.max; omega, by
  have hle := h.le
  have hlen := h.len
  rcases h.own with ⟨rfl, h1⟩ | ⟨b, off, cur, rfl, hb, hh, hs, hv⟩
  · exact .inl ⟨by rw [hA]; split <;> rfl, by omega⟩
  · by_cases e : c = k
    · rw [if_pos e] at hA
      exact .inr ⟨b, off, cur, hA, hb, hh, by omega, fun j x hx => by rw [List.getElem?_drop, List.getElem?_eq_none (by omega)] at hx; cases hx⟩
    · rw [if_neg e] at hA
      refine .inr ⟨b, off + k, cur, by rw [hA]; simp [Addr.add_lit], hb, hh, by omega, fun j x hx => ?_⟩
      rw [List.getElem?_drop] at hx
      have := hv _ _ hx
      rwa [Nat.add_assoc]⟩
/-- One cell is written. -/
theorem Ow.store (h : Ow w base E A n c vs) {b off : Nat} (hA : A = some ⟨b, off, none⟩) {k : Nat} (hk : k < n) (u : Value) : Ow (w.setCell ⟨b, off + k, none⟩ u) base E A n c (vs.set k u) := ⟨by rw [List.length_set]; exact h.len, h.le, h.max, by
  have hle := h.le
  have hlen := h.len
  subst hA
  rcases h.own with ⟨e, _⟩ | ⟨b', off', cur, e, hb, hh, hs, hv⟩
  · cases e
  · cases e
    refine .inr ⟨b, off, cur.setIfInBounds (off + k) u, rfl, hb, by simp [World.setCell, Array.getElem?_modify, hh], by simpa using hs, fun j x hx => ?_⟩
    rw [List.getElem?_set] at hx
    rw [Array.getElem?_setIfInBounds]
    by_cases e : k = j
    · subst e
      have : k < vs.length := by omega
      simp [this] at hx
      subst hx
      have h2 : off + k < cur.size := by omega
      simp [h2]
    · rw [if_neg e] at hx
      rw [if_neg (by omega)]
      exact hv j x hx⟩
theorem Ow.get (h : Ow w base E A n c vs) {k : Nat} (hk : k < n) : ∃ b off v, A = some ⟨b, off, none⟩ ∧ base ≤ b ∧ b < w.heap.size ∧ vs[k]? = some v ∧ w.cell? ⟨b, off + k, none⟩ = some v ∧ w.frozen? ⟨b, off + k, none⟩ = false := by
  obtain ⟨b, off, v, e, hb, hx, hc⟩ := h.rd.get hk
  refine ⟨b, off, v, e, (h.block b (by rw [e]; rfl)).1, hb, hx, hc, ?_⟩
  subst e
  rcases h.own with ⟨e, _⟩ | ⟨b', off', cur, e, _, hh, _⟩
  · cases e
  · cases e
    simp [World.frozen?, hh]
end

section
variable {P : Program} {w : World} {base E : Nat} {A : Option Addr} {n c : Nat} {vs : List Value}

/-- append of cells that lie somewhere, onto a slice of the call's own. -/
theorem run_push (t ty : TypeId) (i : TypeInfo) (z : Value) (bytes : Nat) (ht : P.underlying t = some (.slice E)) (hi : P.info? E = some i) (hz : i.zero = some z)
    (hsize : i.size = 1) (hby : i.bytes = bytes) (hzs : z.cells.size = 1) (h : Ow w base E A n c vs)
    (ad : Addr) (m c2 : Nat) (news : List Value) (hl : news.length = m) (hnews : ∀ j u, news[j]? = some u → w.cell? (ad.add j) = some u) (h1 : ∀ u ∈ news, u.oneCell' = true)
    (hbytes : (n + m) * bytes ≤ 140737488355328) (hmax : n + m ≤ 9223372036854775807) (hbase : base ≤ w.heap.size) :
    ∃ A' c' w', (Builtin.append_ #[t, t] ty #[.slice A n c, .slice (some ad) m c2]).run P w = .ok (.slice A' (n + m) c') w' ∧ Ow w' base E A' (n + m) c' (vs ++ news) ∧ w.grownBy w' (A.map (·.block)) ∧
      (A'.map (·.block) = A.map (·.block) ∨ A'.map (·.block) = some w.heap.size) := by
  subst hby
  have hlen := h.len
  have hle := h.le
  have hcmax := h.max
  have hlen' : (vs ++ news).length = n + m := by rw [List.length_append]; omega
  have grown : ∀ (old : Nat), old < n + m → ∀ (row : Option Nat),
      Ow (w.drew.alloc (.cells (vs.toArray ++ news.toArray ++ Builtin.zeroCells z.cells (grownCap w (n + m) old E - (n + m))) E)) base E (some ⟨w.heap.size, 0, none⟩) (n + m) (grownCap w (n + m) old E) (vs ++ news) ∧
      w.grownBy (w.drew.alloc (.cells (vs.toArray ++ news.toArray ++ Builtin.zeroCells z.cells (grownCap w (n + m) old E - (n + m))) E)) row := by
    intro old ho row
    have hge := grownCap_ge w (n + m) old E
    have hcm : grownCap w (n + m) old E ≤ maxLen := grownCap_le_maxLen w (n + m) old E (by simp only [maxLen]; omega)
    refine ⟨⟨hlen', hge, by simp only [maxLen] at hcm; omega, .inr ⟨w.heap.size, 0, _, rfl, hbase, heap_alloc_new w.drew _, ?_, ?_⟩⟩, ⟨rfl, rfl, rfl, by simp, fun k hk _ => Below.heap_alloc w.drew _ k hk⟩⟩
    · simp only [Array.size_append, List.size_toArray, size_zeroCells, hzs]
      omega
    · intro k v hk
      have hkl : k < (vs ++ news).length := (List.getElem?_eq_some_iff.1 hk).1
      rw [Nat.zero_add, Array.getElem?_append_left (by simpa using hkl)]
      simpa using hk
  rcases h.own with ⟨rfl, rfl⟩ | ⟨b, off, cur, rfl, hb, hg, hs, hv⟩
  · have hn0 : n = 0 := by omega
    subst hn0
    have hvs : vs = [] := List.eq_nil_of_length_eq_zero hlen
    subst hvs
    by_cases hm : m = 0
    · subst hm
      have hn : news = [] := List.eq_nil_of_length_eq_zero hl
      subst hn
      refine ⟨none, 0, w, ?_, Ow.nil w base E, grown_refl _ _, .inl rfl⟩
      simp [Builtin.append_, run_underlying ht, sizeOf, typeInfo, hi, Builtin.lenOf, Builtin.firstCells, loadCells, loadCellsFrom]
    · have hr := run_append_nil (P := P) w t ty E i z ht hi hz ad m c2 news (by rw [hsize]; omega) hnews (by omega) (by omega) (by have hb := hbytes; simp only [Nat.zero_add] at hb; omega)
      have hgr := grown 0 (by omega) none
      simp only [Nat.zero_add, List.nil_append, Array.empty_append] at hgr ⊢
      exact ⟨_, _, _, hr, hgr.1, hgr.2, .inr rfl⟩
  · by_cases hroom : n + m ≤ c
    · have hst := run_storeCells_at P b (off + n) E news 0 cur w hg (by omega) h1
      have hf := run_firstCells_some (P := P) w i.size m ad m c2 news (by rw [hsize]; omega) hnews
      refine ⟨some ⟨b, off, none⟩, c, w.setRow b (cur.toList.take (off + n) ++ news ++ cur.toList.drop (off + n + news.length)).toArray, ?_, ⟨hlen', hroom, hcmax, .inr ⟨b, off, _, rfl, hb, setRow_heap w b cur _ E _ hg, ?_, ?_⟩⟩, ⟨rfl, rfl, rfl, by simp, fun k _ hk => setRow_other w b k _ (fun e => hk (by rw [e]; rfl))⟩, .inl rfl⟩
      · simp only [Nat.add_zero] at hst
        rw [hsize] at hf
        simp [Builtin.append_, run_underlying ht, sizeOf, typeInfo, hi, Builtin.lenOf, hroom, hf, hsize, Addr.add_lit, hst]
      · simp only [List.size_toArray, List.length_append, List.length_take, List.length_drop, Array.length_toList]
        omega
      · intro k v hk
        have hkl : k < (vs ++ news).length := (List.getElem?_eq_some_iff.1 hk).1
        have hlt : (cur.toList.take (off + n)).length = off + n := by simp; omega
        rw [List.getElem?_toArray]
        by_cases hkn : k < n
        · rw [List.getElem?_append_left (by simp; omega), List.getElem?_append_left (by omega), List.getElem?_take, if_pos (by omega)]
          rw [List.getElem?_append_left (by omega)] at hk
          simpa using hv k v hk
        · rw [List.getElem?_append_left (by simp at hkl ⊢; omega), List.getElem?_append_right (by omega), hlt]
          rw [List.getElem?_append_right (by omega)] at hk
          rw [← hk]
          congr 1
          omega
    · have holds : ∀ j u, vs[j]? = some u → w.cell? ((⟨b, off, none⟩ : Addr).add j) = some u := fun j u hu => by
        rw [Addr.add_lit, cell_of_row _ _ _ _ _ _ hg]; exact hv j u hu
      have hr := run_append_grow (P := P) w t ty E i z ht hi hz ⟨b, off, none⟩ n c vs (by rw [hsize]; omega) holds ad m c2 news (by rw [hsize]; omega) hnews (by omega) (by omega) (growslice_fits (by omega) hbytes)
      have hgr := grown c (by omega) (some b)
      exact ⟨_, _, _, hr, hgr.1, hgr.2, .inr rfl⟩

/-- append of a slice that is nil. -/
theorem run_push_nil (t ty : TypeId) (i : TypeInfo) (ht : P.underlying t = some (.slice E)) (hi : P.info? E = some i) (hsize : i.size = 1) (h : Ow w base E A n c vs) (c2 : Nat) :
    (Builtin.append_ #[t, t] ty #[.slice A n c, .slice none 0 c2]).run P w = .ok (.slice A n c) w := by
  have hle := h.le
  rcases h.own with ⟨rfl, rfl⟩ | ⟨b, off, cur, rfl, _⟩
  · have : n = 0 := by omega
    subst this
    simp [Builtin.append_, run_underlying ht, sizeOf, typeInfo, hi, Builtin.lenOf, Builtin.firstCells]
  · simp [Builtin.append_, run_underlying ht, sizeOf, typeInfo, hi, Builtin.lenOf, Builtin.firstCells, hle, storeCells]

/-- append of whatever slice is read. -/
theorem run_push_any (t ty : TypeId) (i : TypeInfo) (z : Value) (bytes : Nat) (ht : P.underlying t = some (.slice E)) (hi : P.info? E = some i) (hz : i.zero = some z)
    (hsize : i.size = 1) (hby : i.bytes = bytes) (hzs : z.cells.size = 1) (h : Ow w base E A n c vs)
    (A2 : Option Addr) (m c2 : Nat) (news : List Value) (hr : Rd w A2 m c2 news) (h1 : ∀ u ∈ news, u.oneCell' = true)
    (hbytes : (n + m) * bytes ≤ 140737488355328) (hmax : n + m ≤ 9223372036854775807) (hbase : base ≤ w.heap.size) :
    ∃ A' c' w', (Builtin.append_ #[t, t] ty #[.slice A n c, .slice A2 m c2]).run P w = .ok (.slice A' (n + m) c') w' ∧ Ow w' base E A' (n + m) c' (vs ++ news) ∧ w.grownBy w' (A.map (·.block)) ∧
      (A'.map (·.block) = A.map (·.block) ∨ A'.map (·.block) = some w.heap.size) := by
  by_cases hm : m = 0
  · subst hm
    have hn : news = [] := List.eq_nil_of_length_eq_zero hr.len
    subst hn
    rcases A2 with _ | ad
    · exact ⟨A, c, w, run_push_nil t ty i ht hi hsize h c2, by simpa using h, grown_refl _ _, .inl rfl⟩
    · exact run_push t ty i z bytes ht hi hz hsize hby hzs h ad 0 c2 [] rfl (by simp) (by simp) hbytes hmax hbase
  · obtain ⟨b, off, rfl, hb, hc⟩ := hr.at_ (by omega)
    exact run_push t ty i z bytes ht hi hz hsize hby hzs h ⟨b, off, none⟩ m c2 news hr.len (fun j u hu => by rw [Addr.add_lit]; exact hc j u hu) h1 hbytes hmax hbase

theorem wpList_push_any {ops : Array Oper} {rest : List Oper} {o : Oper} {a : Act} {Q : Exit → Act → World → Prop} (hgd : o.guard = none) (s x : Operand) (t : TypeId)
    (ho : o.op = .call { callee := .builtin .append, args := #[s, x], argTypes := #[t, t] })
    (i : TypeInfo) (z : Value) (bytes : Nat) (ht : P.underlying t = some (.slice E)) (hi : P.info? E = some i) (hz : i.zero = some z)
    (hsize : i.size = 1) (hby : i.bytes = bytes) (hzs : z.cells.size = 1) (hs : a.eval s = .slice A n c) (h : Ow w base E A n c vs)
    (A2 : Option Addr) (m c2 : Nat) (news : List Value) (hx : a.eval x = .slice A2 m c2) (hr : Rd w A2 m c2 news) (h1 : ∀ u ∈ news, u.oneCell' = true)
    (hbytes : (n + m) * bytes ≤ 140737488355328) (hmax : n + m ≤ 9223372036854775807) (hbase : base ≤ w.heap.size)
    (hk : ∀ A' c' w', Ow w' base E A' (n + m) c' (vs ++ news) → w.grownBy w' (A.map (·.block)) → (A'.map (·.block) = A.map (·.block) ∨ A'.map (·.block) = some w.heap.size) →
      wpList P ops Q rest (a.put o.dst (.slice A' (n + m) c')) w') : wpList P ops Q (o :: rest) a w := by
  refine wpList_plain hgd fun K hK => ?_
  obtain ⟨A', c', w', hrun, h2, h3, h4⟩ := run_push_any (P := P) t o.type i z bytes ht hi hz hsize hby hzs h A2 m c2 news hr h1 hbytes hmax hbase
  unfold Oper.wp execOp
  simp only [ho, resolve, invoke, builtin, Sem.run_bind, Sem.run_pure, Result.andThen_ok, List.map_toArray, List.map_cons, List.map_nil, hs, hx, hrun]
  exact hK _ _ (hk A' c' w' h2 h3 h4)
end

/-- The same as a step of a region that draws its order. -/
theorem step_push_any {P : Program} {w : World} {base E : Nat} {A : Option Addr} {n c : Nat} {vs : List Value} {ops : Array Oper} {o : Oper} {a : Act} {K : Act → World → Prop} {Q : Exit → Act → World → Prop} {F : Prop} (hgd : o.guard = none) (s x : Operand) (t : TypeId)
    (ho : o.op = .call { callee := .builtin .append, args := #[s, x], argTypes := #[t, t] })
    (i : TypeInfo) (z : Value) (bytes : Nat) (ht : P.underlying t = some (.slice E)) (hi : P.info? E = some i) (hz : i.zero = some z)
    (hsize : i.size = 1) (hby : i.bytes = bytes) (hzs : z.cells.size = 1) (hs : a.eval s = .slice A n c) (h : Ow w base E A n c vs)
    (A2 : Option Addr) (m c2 : Nat) (news : List Value) (hx : a.eval x = .slice A2 m c2) (hr : Rd w A2 m c2 news) (h1 : ∀ u ∈ news, u.oneCell' = true)
    (hbytes : (n + m) * bytes ≤ 140737488355328) (hmax : n + m ≤ 9223372036854775807) (hbase : base ≤ w.heap.size)
    (hk : ∀ A' c' w', Ow w' base E A' (n + m) c' (vs ++ news) → w.grownBy w' (A.map (·.block)) → (A'.map (·.block) = A.map (·.block) ∨ A'.map (·.block) = some w.heap.size) →
      K (a.put o.dst (.slice A' (n + m) c')) w') : if Region.wanted o (yielded ops a.tmps) = true then Oper.wp P o a w K Q else F := by
  have hw : Region.wanted o (yielded ops a.tmps) = true := by simp [Region.wanted, hgd]
  rw [if_pos hw]
  obtain ⟨A', c', w', hrun, h2, h3, h4⟩ := run_push_any (P := P) t o.type i z bytes ht hi hz hsize hby hzs h A2 m c2 news hr h1 hbytes hmax hbase
  unfold Oper.wp execOp
  simp only [ho, resolve, invoke, builtin, Sem.run_bind, Sem.run_pure, Result.andThen_ok, List.map_toArray, List.map_cons, List.map_nil, hs, hx, hrun]
  exact hk A' c' w' h2 h3 h4

/-! ### Ints of the call's own -/
structure OwI (w : World) (base : Nat) (A : Option Addr) (n c : Nat) (xs : List Int) : Prop where
  ow : Ow w base 3 A n c (xs.map (Value.int .i64))
  wf : ∀ x ∈ xs, I64 x
section
variable {w w' : World} {base base' : Nat} {A : Option Addr} {n c : Nat} {xs : List Int}
theorem OwI.len (h : OwI w base A n c xs) : xs.length = n := by simpa using h.ow.len
theorem OwI.le (h : OwI w base A n c xs) : n ≤ c := h.ow.le
theorem OwI.max (h : OwI w base A n c xs) : c ≤ 9223372036854775807 := h.ow.max
theorem OwI.nil (w : World) (base : Nat) : OwI w base none 0 0 [] := ⟨Ow.nil w base _, by simp⟩
theorem OwI.ints (h : OwI w base A n c xs) : Ints w A n c xs := ⟨h.ow.rd, h.wf⟩
theorem OwI.mono (h : OwI w base A n c xs) (hb : base' ≤ base) : OwI w base' A n c xs := ⟨h.ow.mono hb, h.wf⟩
theorem OwI.ext (h : OwI w base A n c xs) (hE : Ext w w') : OwI w' base A n c xs := ⟨h.ow.ext hE, h.wf⟩
theorem OwI.grown {row : Option Nat} (h : OwI w base A n c xs) (hg : w.grownBy w' row) (hr : A.map (·.block) ≠ row ∨ A = none) : OwI w' base A n c xs := ⟨h.ow.grown hg hr, h.wf⟩
theorem OwI.block (h : OwI w base A n c xs) : ∀ k, A.map (·.block) = some k → base ≤ k ∧ k < w.heap.size := h.ow.block
theorem OwI.take (h : OwI w base A n c xs) {k : Nat} (hk : k ≤ n) : OwI w base A k c (xs.take k) := ⟨by rw [List.map_take]; exact h.ow.take hk, fun x hx => h.wf x (List.mem_of_mem_take hx)⟩
theorem OwI.drop (h : OwI w base A n c xs) {k : Nat} (hk : k ≤ n) {A' : Option Addr} (hA : A' = if c = k then A else A.map (·.add k)) : OwI w base A' (n - k) (c - k) (xs.drop k) := ⟨by rw [List.map_drop]; exact h.ow.drop hk hA, fun x hx => h.wf x (List.mem_of_mem_drop hx)⟩
theorem OwI.store (h : OwI w base A n c xs) {b off : Nat} (hA : A = some ⟨b, off, none⟩) {k : Nat} (hk : k < n) {x : Int} (hx : I64 x) : OwI (w.setCell ⟨b, off + k, none⟩ (.int .i64 x)) base A n c (xs.set k x) :=
  ⟨by rw [List.map_set]; exact h.ow.store hA hk _, fun y hy => by
    rcases List.mem_or_eq_of_mem_set hy with hy | rfl
    · exact h.wf y hy
    · exact hx⟩
theorem OwI.get (h : OwI w base A n c xs) {k : Nat} (hk : k < n) : ∃ b off x, A = some ⟨b, off, none⟩ ∧ base ≤ b ∧ b < w.heap.size ∧ xs[k]? = some x ∧ I64 x ∧ w.cell? ⟨b, off + k, none⟩ = some (.int .i64 x) ∧ w.frozen? ⟨b, off + k, none⟩ = false := by
  obtain ⟨b, off, v, e, hb, hlt, hv, hc, hf⟩ := h.ow.get hk
  rw [List.getElem?_map] at hv
  cases hx : xs[k]? with
  | none => simp [hx] at hv
  | some x =>
    simp [hx] at hv
    subst hv
    exact ⟨b, off, x, e, hb, hlt, rfl, h.wf x (List.mem_of_getElem? hx), hc, hf⟩
/-- A literal of ints: a block of its own. -/
theorem OwI.lit (w : World) (xs : List Int) (hx : ∀ x ∈ xs, I64 x) (hn : xs.length ≤ 65536) (hb : base ≤ w.heap.size) :
    OwI (w.alloc (.cells (xs.map (Value.int .i64)).toArray 3)) base (some ⟨w.heap.size, 0, none⟩) xs.length xs.length xs :=
  ⟨⟨by simp, Nat.le_refl _, by omega, .inr ⟨w.heap.size, 0, _, rfl, hb, heap_alloc_new w _, by simp, fun k v hk => by simpa using hk⟩⟩, hx⟩
end
theorem ints_oneCell' (xs : List Int) : ∀ u ∈ xs.map (Value.int .i64), u.oneCell' = true := ints_oneCell _ _

theorem info_int : (Tryd.prog.info? 3).map (fun i => (i.zero, i.size, i.bytes)) = some (some (.int .i64 0), 1, 8) := by kernel_rfl

theorem push_ints {ops : Array Oper} {rest : List Oper} {o : Oper} {a : Act} {Q : Exit → Act → World → Prop} {w : World} {base : Nat} {A : Option Addr} {n c : Nat} {xs : List Int} (hgd : o.guard = none) (s x : Operand)
    (ho : o.op = .call { callee := .builtin .append, args := #[s, x], argTypes := #[23, 23] })
    (hs : a.eval s = .slice A n c) (h : OwI w base A n c xs) (A2 : Option Addr) (m c2 : Nat) (ys : List Int) (hx : a.eval x = .slice A2 m c2) (hr : Ints w A2 m c2 ys)
    (hsz : n + m ≤ 4294967296) (hbase : base ≤ w.heap.size)
    (hk : ∀ A' c' w', OwI w' base A' (n + m) c' (xs ++ ys) → w.grownBy w' (A.map (·.block)) → (A'.map (·.block) = A.map (·.block) ∨ A'.map (·.block) = some w.heap.size) →
      wpList Tryd.prog ops Q rest (a.put o.dst (.slice A' (n + m) c')) w') : wpList Tryd.prog ops Q (o :: rest) a w := by
  obtain ⟨i0, hi0, hz0, hz1, hz2⟩ := info_parts info_int
  refine wpList_push_any hgd s x 23 ho i0 _ 8 Tryd.underlying23 hi0 hz0 hz1 hz2 rfl hs h.ow A2 m c2 _ hx hr.rd (ints_oneCell' _) (by omega) (by omega) hbase ?_
  intro A' c' w' h1 h2 h3
  refine hk A' c' w' ⟨by rw [List.map_append]; exact h1, fun y hy => ?_⟩ h2 h3
  rcases List.mem_append.1 hy with hy | hy
  · exact h.wf y hy
  · exact hr.wf y hy

/-- make([]int, n): zeros of the call's own. -/
def zeroRow (n : Nat) : Array Value := Array.replicate n (Value.int .i64 0)
theorem run_make_ints (n : Nat) (hn : n ≤ 4294967296) (w : World) :
    (Instr.makeSlice 23 (.int .i64 (n : Int)) (.int .i64 (n : Int))).run Tryd.prog w = .ok (.slice (some ⟨w.heap.size, 0, none⟩) n n) (w.alloc (.cells (zeroRow n) 3)) := by
  obtain ⟨i, hi, hz, h1, h2⟩ := info_parts info_int
  have hr := run_make (P := Tryd.prog) w 23 3 i _ Tryd.underlying23 hi hz .i64 .i64 n n (by omega) (by omega) (by rw [h2]; omega) (by omega)
  simp only [Int.toNat_natCast, h1, Nat.mul_one] at hr
  rw [hr]
  have e : madeCells (Value.int .i64 0).cells n = zeroRow n := by
    apply Array.ext_getElem?
    intro k
    by_cases hk : k < n <;> simp [madeCells, zeroRow, Value.cells, hk, Nat.mod_one]
  rw [e]
theorem OwI.zeros (w : World) {base : Nat} (n : Nat) (hn : n ≤ 4294967296) (hb : base ≤ w.heap.size) :
    OwI (w.alloc (.cells (zeroRow n) 3)) base (some ⟨w.heap.size, 0, none⟩) n n (List.replicate n 0) :=
  ⟨⟨by simp, Nat.le_refl _, by omega, .inr ⟨w.heap.size, 0, _, rfl, hb, heap_alloc_new w _, by simp [zeroRow], fun k v hk => by
    rw [List.map_replicate] at hk; unfold zeroRow; rw [Nat.zero_add, ← hk]; simp [Array.getElem?_replicate, List.getElem?_replicate]⟩⟩, fun x hx => by rw [List.eq_of_mem_replicate hx]; exact ⟨by omega, by omega⟩⟩
theorem run_make_gen {P : Program} {T E : Nat} {z : Value} {bytes : Nat} (ht : P.underlying T = some (.slice E)) (hinfo : (P.info? E).map (fun i => (i.zero, i.size, i.bytes)) = some (some z, 1, bytes)) (hz : z.cells = #[z])
    (n : Nat) (hn : n * bytes ≤ 281474976710656) (hn' : n ≤ 4294967296) (w : World) :
    (Instr.makeSlice T (.int .i64 (n : Int)) (.int .i64 (n : Int))).run P w = .ok (.slice (some ⟨w.heap.size, 0, none⟩) n n) (w.alloc (.cells (Array.replicate n z) E)) := by
  obtain ⟨i, hi, hz', h1, h2⟩ := info_parts hinfo
  have hb : (i.bytes : Int) * (n : Int) ≤ 281474976710656 := by
    rw [h2, Int.mul_comm]
    have : ((n * bytes : Nat) : Int) ≤ 281474976710656 := by omega
    rwa [Int.natCast_mul] at this
  have hr := run_make (P := P) w T E i _ ht hi hz' .i64 .i64 n n (by omega) (by omega) hb (by omega)
  simp only [Int.toNat_natCast, h1, Nat.mul_one] at hr
  rw [hr]
  have e : madeCells z.cells n = Array.replicate n z := by
    apply Array.ext_getElem?
    intro k
    by_cases hk : k < n <;> simp [madeCells, hz, hk, Nat.mod_one]
  rw [e]
theorem Ow.fill (w : World) {base E : Nat} (z : Value) (n : Nat) (hn : n ≤ 4294967296) (hb : base ≤ w.heap.size) :
    Ow (w.alloc (.cells (Array.replicate n z) E)) base E (some ⟨w.heap.size, 0, none⟩) n n (List.replicate n z) :=
  ⟨by simp, Nat.le_refl _, by omega, .inr ⟨w.heap.size, 0, _, rfl, hb, heap_alloc_new w _, by simp, fun k v hk => by
    rw [Nat.zero_add, ← hk]; simp [Array.getElem?_replicate, List.getElem?_replicate]⟩⟩

/-- Where 's[k:]' begins. -/
def tailA (A : Option Addr) (c k : Nat) : Option Addr := if c = k then A else A.map (·.add k)
theorem run_tail {P : Program} {T E : Nat} (ht : P.underlying T = some (.slice E)) (hinfo : (P.info? E).map (·.size) = some 1) (A : Option Addr) (n c k : Nat) (hk : k ≤ n) (l : Int) (hl : l = (k : Int)) (w : World) :
    (Instr.sliceAt T (.slice A n c) (some (.int .i64 l)) none none).run P w = .ok (.slice (tailA A c k) (n - k) (c - k)) w := by
  subst hl
  obtain ⟨i, hi, hs⟩ := Option.map_eq_some_iff.1 hinfo
  have e : P.elem T = E := by simp [Program.elem, ht]
  have ht' : P.underlying T = some (.slice (P.elem T)) := by rw [e]; exact ht
  rw [run_sliceAt_slice w T _ _ _ _ ht', run_slice_l w T A n c ht' .i64 (k : Int) (by omega) (by omega)]
  rw [e]
  simp [sizeOf, typeInfo, hi, hs, sliced, tailA]
theorem size_int : (Tryd.prog.info? 3).map (·.size) = some 1 := by kernel_rfl
theorem run_tail_int (A : Option Addr) (n c k : Nat) (hk : k ≤ n) (l : Int) (hl : l = (k : Int)) (w : World) :
    (Instr.sliceAt 23 (.slice A n c) (some (.int .i64 l)) none none).run Tryd.prog w = .ok (.slice (tailA A c k) (n - k) (c - k)) w :=
  run_tail Tryd.underlying23 size_int A n c k hk l hl w
theorem Ints.tail {w : World} {A : Option Addr} {n c : Nat} {xs : List Int} (h : Ints w A n c xs) {k : Nat} (hk : k ≤ n) : Ints w (tailA A c k) (n - k) (c - k) (xs.drop k) :=
  h.drop hk fun e => by rw [tailA, if_neg e]
theorem OwI.tail {w : World} {base : Nat} {A : Option Addr} {n c : Nat} {xs : List Int} (h : OwI w base A n c xs) {k : Nat} (hk : k ≤ n) : OwI w base (tailA A c k) (n - k) (c - k) (xs.drop k) :=
  h.drop hk rfl
theorem tailA_block (A : Option Addr) (c k : Nat) : (tailA A c k).map (·.block) = A.map (·.block) := by
  unfold tailA
  split
  · rfl
  · cases A with
    | none => rfl
    | some a => simp [Addr.add]; split <;> rfl
/-- A row beside the one that is appended to. -/
theorem OwI.beside {w w' : World} {base : Nat} {A B B' : Option Addr} {n c : Nat} {xs : List Int} (h : OwI w base A n c xs) (hne : B.map (·.block) ≠ A.map (·.block))
    (hg : w.grownBy w' (B.map (·.block))) (hat : B'.map (·.block) = B.map (·.block) ∨ B'.map (·.block) = some w.heap.size) : OwI w' base A n c xs ∧ B'.map (·.block) ≠ A.map (·.block) := by
  refine ⟨h.grown hg (.inl fun e => hne e.symm), ?_⟩
  rcases hat with e | e
  · rw [e]; exact hne
  · rw [e]
    intro e2
    have := (h.block _ e2.symm).2
    omega

/-- Nothing has changed but the count of draws. -/
def Qt (w w' : World) : Prop := ∃ m, w' = w.drewN m
theorem Qt.refl (w : World) : Qt w w := ⟨0, rfl⟩
theorem Qt.drewN {a b : World} (h : Qt a b) (n : Nat) : Qt a (b.drewN n) := by obtain ⟨m, rfl⟩ := h; exact ⟨m + n, by simp⟩
theorem Qt.trans {a b c : World} (h : Qt a b) (k : Qt b c) : Qt a c := by obtain ⟨n, rfl⟩ := k; exact h.drewN n
theorem Qt.ext {a b : World} (h : Qt a b) : Ext a b := by obtain ⟨m, rfl⟩ := h; exact (Ext.refl a).drewN m

/-- Nothing has changed but what lies from block l on and before block u. -/
structure Only (l u : Nat) (w w' : World) : Prop where
  os : w'.os = w.os
  tape : w'.tape = w.tape
  output : w'.output = w.output
  size : w.heap.size ≤ w'.heap.size
  block : ∀ k, k < w.heap.size → ¬ (l ≤ k ∧ k < u) → w'.heap[k]? = w.heap[k]?
section
variable {l u : Nat} {a b c w w' : World}
theorem Only.refl (l u : Nat) (w : World) : Only l u w w := ⟨rfl, rfl, rfl, Nat.le_refl _, fun _ _ _ => rfl⟩
theorem Only.trans (h : Only l u a b) (k : Only l u b c) : Only l u a c :=
  ⟨k.os.trans h.os, k.tape.trans h.tape, k.output.trans h.output, Nat.le_trans h.size k.size, fun i hi hn => (k.block i (Nat.lt_of_lt_of_le hi h.size) hn).trans (h.block i hi hn)⟩
theorem Only.of_ext (h : Ext a b) : Only l u a b := ⟨h.os, h.tape, h.output, h.size, fun _ hi _ => Ext.block h hi⟩
theorem Only.of_grown {row : Option Nat} (h : a.grownBy b row) (hr : ∀ k, row = some k → l ≤ k ∧ k < u) : Only l u a b :=
  ⟨h.os, h.tape, h.output, h.size, fun i hi hn => h.block i hi fun e => hn (hr i e.symm)⟩
theorem Ext.only {w0 : World} (h : Ext w0 w) (k : Only l u w w') (hl : w0.heap.size ≤ l) : Ext w0 w' :=
  ⟨k.os.trans h.os, k.tape.trans h.tape, k.output.trans h.output, Nat.le_trans h.size k.size, fun i hi => (k.block i (Nat.lt_of_lt_of_le hi h.size) (by omega)).trans (Ext.block h hi)⟩
theorem Only.mono {l' u' : Nat} (h : Only l u a b) (hl : l' ≤ l) (hu : u ≤ u') : Only l' u' a b := ⟨h.os, h.tape, h.output, h.size, fun i hi hn => h.block i hi (by omega)⟩
end
theorem ints_lit2 (w : World) {base : Nat} (x y : Int) (hx : I64 x) (hy : I64 y) (hb : base ≤ w.heap.size) :
    OwI (w.alloc (.cells #[.int .i64 x, .int .i64 y] 3)) base (some ⟨w.heap.size, 0, none⟩) 2 2 [x, y] :=
  OwI.lit w [x, y] (by intro z hz; simp at hz; rcases hz with rfl | rfl <;> assumption) (by simp) hb
theorem ints_lit1 (w : World) {base : Nat} (x : Int) (hx : I64 x) (hb : base ≤ w.heap.size) :
    OwI (w.alloc (.cells #[.int .i64 x] 3)) base (some ⟨w.heap.size, 0, none⟩) 1 1 [x] :=
  OwI.lit w [x] (by intro z hz; simp at hz; rw [hz]; exact hx) (by simp) hb
theorem ints_lit0 (w : World) {base : Nat} (hb : base ≤ w.heap.size) :
    OwI (w.alloc (.cells #[] 3)) base (some ⟨w.heap.size, 0, none⟩) 0 0 [] :=
  OwI.lit w [] (by simp) (by simp) hb
/-- Is a slice nil? -/
theorem eql_nil_sl (W : World) (a : Option Addr) (n c n' c' : Nat) : (binOp .eql 23 (.slice a n c) (.slice none n' c')).run Tryd.prog W = .ok (.bool a.isNone) W := Lib.run_eql_slice_nil W _ _ a n c n' c' Tryd.underlying23
/-- Sets of bits, as numbers that are not below 0. -/
theorem bits_and_i64 (a b : Nat) (ha : a < 9223372036854775808) (hb : b < 9223372036854775808) : bits .and .i64 (a : Int) (b : Int) = ((a &&& b : Nat) : Int) := by
  have hx : a &&& b < 2 ^ 63 := Nat.and_lt_two_pow _ (by omega)
  have h1 : (BitVec.ofInt 64 (a : Int)).toNat = a := by
    rw [BitVec.ofInt_natCast, BitVec.toNat_ofNat]; exact Nat.mod_eq_of_lt (by omega)
  have h2 : (BitVec.ofInt 64 (b : Int)).toNat = b := by
    rw [BitVec.ofInt_natCast, BitVec.toNat_ofNat]; exact Nat.mod_eq_of_lt (by omega)
  show IntKind.i64.wrap ((BitVec.ofInt 64 (a : Int) &&& BitVec.ofInt 64 (b : Int)).toNat : Int) = _
  rw [BitVec.toNat_and, h1, h2, IntKind.wrap_i64]
  omega
theorem and_one_i64 (x : Int) (h0 : 0 ≤ x) (h1 : x ≤ 9223372036854775807) : bits BinOp.and IntKind.i64 x 1 = x % 2 := by
  have h := bits_and_i64 x.toNat 1 (by omega) (by omega)
  rw [Nat.and_one_is_mod, Int.toNat_of_nonneg h0] at h
  have h2 : ((x.toNat % 2 : Nat) : Int) = x % 2 := by omega
  exact h.trans h2

end Go.Proofs.YtbaljgdepicigaaDoor
