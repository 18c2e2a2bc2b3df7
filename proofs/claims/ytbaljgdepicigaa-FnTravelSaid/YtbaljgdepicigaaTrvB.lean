/-
  Grids of the call's own: two rows exchanged, a part taken, two grids joined.
-/
import Derived.Deep.RegionLaw
import Derived.Test.YtbaljgdepicigaaBase
import Derived.Test.YtbaljgdepicigaaMathA
import Derived.Test.YtbaljgdepicigaaMathD
import Derived.Test.YtbaljgdepicigaaLib
import Derived.Test.YtbaljgdepicigaaAid
import Derived.Test.YtbaljgdepicigaaStep
import Derived.Test.YtbaljgdepicigaaGrid
import Derived.Test.YtbaljgdepicigaaLibF
import Derived.Test.YtbaljgdepicigaaMathB
import Derived.Test.YtbaljgdepicigaaMathT
import Derived.Test.YtbaljgdepicigaaMathM
import Derived.Test.YtbaljgdepicigaaMathTr
import Derived.Test.YtbaljgdepicigaaMathTp
namespace Go.Proofs.Ytbaljgdepicigaa
open Go.RowKit
set_option linter.unusedVariables false
set_option maxRecDepth 100000

/-- Where an index comes from when two are exchanged. -/
def swI (i k x : Nat) : Nat := if x = k then i else if x = i then k else x
theorem swI_inj {i k x y : Nat} (h : x ≠ y) : swI i k x ≠ swI i k y := by
  unfold swI
  split <;> split <;> (try split) <;> (try split) <;> omega
theorem swap_get {α : Type} (l : List α) (d : α) {i k : Nat} (hi : i < l.length) (hk : k < l.length) (x : Nat) : ((l.set i (l.getD k d)).set k (l.getD i d))[x]? = l[swI i k x]? := by
  have e1 : l[i]? = some (l.getD i d) := by rw [List.getD_eq_getElem?_getD, List.getElem?_eq_getElem hi]; rfl
  have e2 : l[k]? = some (l.getD k d) := by rw [List.getD_eq_getElem?_getD, List.getElem?_eq_getElem hk]; rfl
  rw [List.getElem?_set, List.length_set, List.getElem?_set]
  unfold swI
  by_cases h1 : x = k
  · subst h1; rw [if_pos rfl, if_pos hk, if_pos rfl, e1]
  · rw [if_neg (fun e => h1 e.symm), if_neg h1]
    by_cases h2 : x = i
    · subst h2; rw [if_pos rfl, if_pos hi, if_pos rfl, e2]
    · rw [if_neg (fun e => h2 e.symm), if_neg h2]
theorem OwGH.swap {w : World} {lo u n c b off : Nat} {hs : List (Option Addr × Nat × Nat)} {rows : List (List Int)} (h : OwGH w lo u (some ⟨b, off, none⟩) n c hs rows) {i k : Nat} (hi : i < n) (hk : k < n) :
    OwGH ((w.setCell ⟨b, off + i, none⟩ (sv (hs.getD k (none, 0, 0)))).setCell ⟨b, off + k, none⟩ (sv (hs.getD i (none, 0, 0)))) lo u (some ⟨b, off, none⟩) n c ((hs.set i (hs.getD k (none, 0, 0))).set k (hs.getD i (none, 0, 0))) (swapP rows i k) := by
  have hln : hs.length = n := by have := h.ow.len; simpa using this
  have hrn : rows.length = n := by rw [← h.hl]; exact hln
  have h1 := h.ow.store rfl hi (sv (hs.getD k (none, 0, 0)))
  have h2 := h1.store rfl hk (sv (hs.getD i (none, 0, 0)))
  rw [← List.map_set, ← List.map_set] at h2
  have g1 : w.grownBy (w.setCell ⟨b, off + i, none⟩ (sv (hs.getD k (none, 0, 0)))) (some b) := grown_setCell w ⟨b, off + i, none⟩ _
  have g2 : (w.setCell ⟨b, off + i, none⟩ (sv (hs.getD k (none, 0, 0)))).grownBy ((w.setCell ⟨b, off + i, none⟩ (sv (hs.getD k (none, 0, 0)))).setCell ⟨b, off + k, none⟩ (sv (hs.getD i (none, 0, 0)))) (some b) := grown_setCell _ ⟨b, off + k, none⟩ _
  generalize (w.setCell ⟨b, off + i, none⟩ (sv (hs.getD k (none, 0, 0)))).setCell ⟨b, off + k, none⟩ (sv (hs.getD i (none, 0, 0))) = w2 at *
  generalize w.setCell ⟨b, off + i, none⟩ (sv (hs.getD k (none, 0, 0))) = w1 at *
  refine ⟨h2, h.top, by simp [h.hl, swapP], fun x x0 r hz hr => ?_, fun x y z z' hxy hz hz' => ?_⟩
  · rw [swap_get _ _ (by omega) (by omega)] at hz
    unfold swapP at hr
    rw [swap_get _ _ (by omega) (by omega)] at hr
    have h3 := h.row _ x0 r hz hr
    have h4 : x0.1.map (·.block) ≠ some b := by
      rcases h.ne_row hz hr with h4 | h4
      · exact fun e => h4 e.symm
      · cases h4
    have h5 := h3.ow.grown g1 (.inl h4)
    exact ⟨h5.grown g2 (.inl h4), h3.top⟩
  · rw [swap_get _ _ (by omega) (by omega)] at hz hz'
    exact h.apart _ _ z z' (swI_inj hxy) hz hz'
/-- The facts that two stores of an exchange want. -/
theorem OwG.swap {w : World} {lo u n c : Nat} {A : Option Addr} {rows : List (List Int)} (h : OwG w lo u A n c rows) {i k : Nat} (hi : i < n) (hk : k < n) :
    ∃ b off B1 m1 d1 B2 m2 d2 uk', A = some ⟨b, off, none⟩ ∧ lo ≤ b ∧ w.cell? ⟨b, off + i, none⟩ = some (.slice B1 m1 d1) ∧ w.frozen? ⟨b, off + i, none⟩ = false ∧ w.cell? ⟨b, off + k, none⟩ = some (.slice B2 m2 d2) ∧
      (w.setCell ⟨b, off + i, none⟩ (.slice B2 m2 d2)).cell? ⟨b, off + k, none⟩ = some uk' ∧ (w.setCell ⟨b, off + i, none⟩ (.slice B2 m2 d2)).frozen? ⟨b, off + k, none⟩ = false ∧
      OwG ((w.setCell ⟨b, off + i, none⟩ (.slice B2 m2 d2)).setCell ⟨b, off + k, none⟩ (.slice B1 m1 d1)) lo u (some ⟨b, off, none⟩) n c (swapP rows i k) := by
  obtain ⟨hs, h⟩ := h
  have hln : hs.length = n := by have := h.ow.len; simpa using this
  obtain ⟨b, off, ui, e, hb, hlt, hvi, hci, hfi⟩ := h.ow.get hi
  subst e
  obtain ⟨b2, off2, uk, e, _, _, hvk, hck, hfk⟩ := h.ow.get hk
  cases e
  have hsw := h.swap hi hk
  have g1 : ui = sv (hs.getD i (none, 0, 0)) := by
    rw [List.getElem?_map, List.getElem?_eq_getElem (by omega)] at hvi
    rw [List.getD_eq_getElem?_getD, List.getElem?_eq_getElem (by omega)]
    exact (Option.some.inj hvi).symm
  have g2 : uk = sv (hs.getD k (none, 0, 0)) := by
    rw [List.getElem?_map, List.getElem?_eq_getElem (by omega)] at hvk
    rw [List.getD_eq_getElem?_getD, List.getElem?_eq_getElem (by omega)]
    exact (Option.some.inj hvk).symm
  have h1 := h.ow.store rfl hi uk
  obtain ⟨b3, off3, uk', e, _, _, _, hck', hfk'⟩ := h1.get hk
  cases e
  rw [← g1, ← g2] at hsw
  generalize hs.getD i (none, 0, 0) = z1 at *
  generalize hs.getD k (none, 0, 0) = z2 at *
  obtain ⟨B1, m1, d1⟩ := z1
  obtain ⟨B2, m2, d2⟩ := z2
  subst g1
  subst g2
  exact ⟨b, off, B1, m1, d1, B2, m2, d2, uk', rfl, hb, hci, hfi, hck, hck', hfk', _, hsw⟩
theorem OwG.take {w : World} {lo hi n c : Nat} {A : Option Addr} {rows : List (List Int)} (h : OwG w lo hi A n c rows) {k : Nat} (hk : k ≤ n) : OwG w lo hi A k c (rows.take k) := by
  obtain ⟨hs, h⟩ := h
  refine ⟨hs.take k, by rw [List.map_take]; exact h.ow.take hk, h.top, by simp [h.hl], fun i x r hx hr => ?_, fun i j x y hij hx hy => ?_⟩
  · rw [List.getElem?_take] at hx hr
    split at hx
    · rename_i hlt; rw [if_pos hlt] at hr; exact h.row i x r hx hr
    · cases hx
  · rw [List.getElem?_take] at hx hy
    split at hx
    · split at hy
      · exact h.apart i j x y hij hx hy
      · cases hy
    · cases hx
/-- Rows of another own grid, that lies behind, are appended. -/
theorem OwG.joined {w0 w w' : World} {lo mid : Nat} {A A' B : Option Addr} {n c c' m d : Nat} {hs hs2 : List (Option Addr × Nat × Nat)} {rows rows2 : List (List Int)} (h : OwGH w lo mid A n c hs rows) (h2 : OwGH w mid w.heap.size B m d hs2 rows2) (hlm : lo ≤ mid)
    (hn : Ow w' lo 23 A' (n + m) c' (hs.map sv ++ hs2.map sv)) (hg : w.grownBy w' (A.map (·.block))) : OwG w' lo w'.heap.size A' (n + m) c' (rows ++ rows2) := by
  have hsz2 := hg.size
  have hln : hs.length = n := by have := h.ow.len; simpa using this
  have hln2 : hs2.length = m := by have := h2.ow.len; simpa using this
  have hrn : rows.length = n := by rw [← h.hl]; exact hln
  have hrn2 : rows2.length = m := by rw [← h2.hl]; exact hln2
  have hz : ∀ {x : Option Addr}, (∀ q, x.map (·.block) = some q → q < w.heap.size) → True := fun _ => trivial
  have hold : ∀ (i : Nat) x s, hs[i]? = some x → rows[i]? = some s → InI w' lo w'.heap.size x.1 x.2.1 x.2.2 s := fun i x s hx hs' => by
    have h3 := h.row i x s hx hs'
    refine ⟨h3.ow.grown hg ?_, fun k hk => by have := (h3.ow.block k hk).2; omega⟩
    rcases h.ne_row hx hs' with h4 | h4
    · exact .inl fun e => h4 e.symm
    · subst h4
      cases hx1 : x.1 with
      | none => exact .inr rfl
      | some a => exact .inl (by simp)
  have hnew : ∀ (i : Nat) x s, hs2[i]? = some x → rows2[i]? = some s → InI w' lo w'.heap.size x.1 x.2.1 x.2.2 s := fun i x s hx hs' => by
    have h3 := h2.row i x s hx hs'
    refine ⟨(h3.ow.grown hg ?_).mono hlm, fun k hk => by have := (h3.ow.block k hk).2; omega⟩
    cases hA : A.map (·.block) with
    | none =>
      cases hx1 : x.1 with
      | none => exact .inr rfl
      | some a => exact .inl (by simp)
    | some q =>
      cases hx1 : x.1 with
      | none => exact .inr rfl
      | some a =>
        refine .inl fun e => ?_
        have h5 := h.top q hA
        have h6 := (h3.ow.block a.block (by rw [hx1]; rfl)).1
        simp at e
        omega
  have hap : ∀ (i j : Nat) x y s t, hs[i]? = some x → rows[i]? = some s → hs2[j]? = some y → rows2[j]? = some t → x.1.map (·.block) ≠ y.1.map (·.block) ∨ x.1 = none := fun i j x y s t hx hs' hy ht => by
    cases hA : x.1.map (·.block) with
    | none => exact .inr (by cases hx1 : x.1 <;> simp_all)
    | some q =>
      refine .inl fun e2 => ?_
      have := (h.row i x s hx hs').top q hA
      have := ((h2.row j y t hy ht).ow.block q e2.symm).1
      omega
  have hcase : ∀ (q : Nat) (z : Option Addr × Nat × Nat), (hs ++ hs2)[q]? = some z → (q < n ∧ hs[q]? = some z) ∨ (n ≤ q ∧ hs2[q - n]? = some z) := by
    intro q z hz
    by_cases e : q < n
    · rw [List.getElem?_append_left (by omega)] at hz; exact .inl ⟨e, hz⟩
    · rw [List.getElem?_append_right (by omega), hln] at hz; exact .inr ⟨by omega, hz⟩
  have hrow : ∀ i x, hs[i]? = some x → ∃ s, rows[i]? = some s := fun i x hx => ⟨_, List.getElem?_eq_getElem (by have := (List.getElem?_eq_some_iff.1 hx).1; omega)⟩
  have hrow2 : ∀ i x, hs2[i]? = some x → ∃ s, rows2[i]? = some s := fun i x hx => ⟨_, List.getElem?_eq_getElem (by have := (List.getElem?_eq_some_iff.1 hx).1; omega)⟩
  refine ⟨hs ++ hs2, ⟨by rw [List.map_append]; exact hn, fun k hk => (hn.block k hk).2, by simp [h.hl, h2.hl], fun i x s hx hs' => ?_, fun i j x y hij hx hy => ?_⟩⟩
  · rcases hcase i x hx with ⟨hi, hx'⟩ | ⟨hi, hx'⟩
    · rw [List.getElem?_append_left (by omega)] at hs'
      exact hold i x s hx' hs'
    · rw [List.getElem?_append_right (by omega), hrn] at hs'
      exact hnew _ x s hx' hs'
  · rcases hcase i x hx with ⟨hi, hx'⟩ | ⟨hi, hx'⟩ <;> rcases hcase j y hy with ⟨hj, hy'⟩ | ⟨hj, hy'⟩
    · exact h.apart i j x y hij hx' hy'
    · obtain ⟨s, hs'⟩ := hrow i x hx'
      obtain ⟨t, ht⟩ := hrow2 _ y hy'
      exact hap i _ x y s t hx' hs' hy' ht
    · obtain ⟨s, hs'⟩ := hrow j y hy'
      obtain ⟨t, ht⟩ := hrow2 _ x hx'
      rcases hap j _ y x s t hy' hs' hx' ht with h7 | h7
      · exact .inl fun e => h7 e.symm
      · cases hB1 : x.1 with
        | none => exact .inr rfl
        | some a => exact .inl (by rw [h7]; simp)
    · exact h2.apart _ _ x y (by omega) hx' hy'
theorem push_grid {ops : Array Oper} {rest : List Oper} {o : Oper} {a : Act} {Q : Exit → Act → World → Prop} {w : World} {lo mid : Nat} {A B : Option Addr} {n c m d : Nat} {rows rows2 : List (List Int)} (hgd : o.guard = none) (s x : Operand)
    (ho : o.op = .call { callee := .builtin .append, args := #[s, x], argTypes := #[36, 36] })
    (hs : a.eval s = .slice A n c) (h : OwG w lo mid A n c rows) (hx : a.eval x = .slice B m d) (h2 : OwG w mid w.heap.size B m d rows2)
    (hsz : n + m ≤ 1073741824) (hlo : lo ≤ mid) (hmid : mid ≤ w.heap.size)
    (hk : ∀ A' c' w', OwG w' lo w'.heap.size A' (n + m) c' (rows ++ rows2) → (∀ z : World, Ext z w → z.heap.size ≤ lo → Ext z w') → wpList Try.prog ops Q rest (a.put o.dst (.slice A' (n + m) c')) w') : wpList Try.prog ops Q (o :: rest) a w := by
  obtain ⟨hs1, h⟩ := h
  obtain ⟨hs2, h2⟩ := h2
  obtain ⟨i0, hi0, hz0, hz1, hz2⟩ := info_parts info_sl
  refine wpList_push_any hgd s x 36 ho i0 _ 24 Try.underlying36 hi0 hz0 hz1 hz2 rfl hs h.ow B m d (hs2.map sv) hx h2.ow.rd (fun u hu => by
    obtain ⟨y, _, rfl⟩ := List.mem_map.1 hu
    simp [sv, Value.oneCell']) (by omega) (by omega) (by omega) ?_
  intro A' c' w' h1 h3 h4
  refine hk A' c' w' (OwG.joined (w0 := w) h h2 hlo h1 h3) fun z hz hl => hz.grown h3 fun k hk' => ?_
  have := (h.ow.block k hk').1
  omega
/-- A row is put into its place anew. -/
theorem OwGH.putT {w w1 : World} {lo hi : Nat} {A A' : Option Addr} {n c n' c' : Nat} {hs : List (Option Addr × Nat × Nat)} {rows : List (List Int)} {i : Nat} {x : Option Addr × Nat × Nat} {r r' : List Int} {b off : Nat}
    (h : OwGH w lo hi A n c hs rows) (hhi : hi ≤ w.heap.size) (hA : A = some ⟨b, off, none⟩) (hi : i < n) (hx : hs[i]? = some x) (hr : rows[i]? = some r)
    (hg : w.grownBy w1 (x.1.map (·.block))) (ho : OwI w1 lo A' n' c' r') (hat : A'.map (·.block) = x.1.map (·.block) ∨ A'.map (·.block) = some w.heap.size) :
    OwGH (w1.setCell ⟨b, off + i, none⟩ (.slice A' n' c')) lo w1.heap.size A n c (hs.set i (A', n', c')) (rows.set i r') := by
  have hz := hg.size
  have hs1 : (w1.setCell ⟨b, off + i, none⟩ (.slice A' n' c')).heap.size = w1.heap.size := by simp [World.setCell]
  have hbA : A.map (·.block) = some b := by rw [hA]; rfl
  have hb := h.top b hbA
  have hneb : ∀ (j : Nat) y s, hs[j]? = some y → rows[j]? = some s → y.1.map (·.block) ≠ some b := fun j y s hy hs' e => by
    rcases h.ne_row hy hs' with h1 | h1
    · exact h1 (hbA.trans e.symm)
    · rw [h1] at hbA; cases hbA
  have hA'b : A'.map (·.block) ≠ some b := fun e => by
    rcases hat with h1 | h1
    · exact hneb i x r hx hr (h1 ▸ e)
    · rw [h1] at e; simp at e; omega
  have hgs := grown_setCell w1 ⟨b, off + i, none⟩ (.slice A' n' c')
  have hil : i < hs.length := (List.getElem?_eq_some_iff.1 hx).1
  have hir : i < rows.length := (List.getElem?_eq_some_iff.1 hr).1
  have hrow : ∀ (j : Nat), j < hs.length → ∃ s, rows[j]? = some s := fun j hj => ⟨_, List.getElem?_eq_getElem (by rw [← h.hl]; exact hj)⟩
  have hget : ∀ (j : Nat) y, (hs.set i (A', n', c'))[j]? = some y → (j = i ∧ y = (A', n', c')) ∨ (j ≠ i ∧ hs[j]? = some y) := fun j y hy => by
    rw [List.getElem?_set] at hy
    by_cases e : i = j
    · subst e; rw [if_pos rfl, if_pos hil] at hy; cases hy; exact .inl ⟨rfl, rfl⟩
    · rw [if_neg e] at hy; exact .inr ⟨fun e2 => e e2.symm, hy⟩
  have hapx : ∀ (j : Nat) y, j ≠ i → hs[j]? = some y → y.1.map (·.block) ≠ A'.map (·.block) ∨ y.1 = none := fun j y hj hy => by
    obtain ⟨s, hs'⟩ := hrow j (List.getElem?_eq_some_iff.1 hy).1
    rcases hat with h1 | h1
    · rw [h1]; exact h.apart j i y x hj hy hx
    · refine .inl fun e => ?_
      rw [h1] at e
      have := (h.row j y s hy hs').top w.heap.size e
      omega
  refine ⟨?_, fun k hk => by rw [hbA] at hk; cases hk; omega, by simp [h.hl], fun j y s hy hs' => ?_, fun j k y z hjk hy hz' => ?_⟩
  · have h1 := (h.ow.grown hg (h.ne_row hx hr)).store hA hi (.slice A' n' c')
    rw [List.map_set]
    exact h1
  · rcases hget j y hy with ⟨rfl, rfl⟩ | ⟨hj, hy'⟩
    · rw [List.getElem?_set_self hir] at hs'
      cases hs'
      exact ⟨ho.grown hgs (.inl hA'b), fun k hk => (ho.block k hk).2⟩
    · rw [List.getElem?_set_ne (fun e => hj e.symm)] at hs'
      have h3 := h.row j y s hy' hs'
      refine ⟨(h3.ow.grown hg (h.apart j i y x hj hy' hx)).grown hgs (.inl (hneb j y s hy' hs')), fun k hk => ?_⟩
      have := h3.top k hk
      omega
  · rcases hget j y hy with ⟨rfl, rfl⟩ | ⟨hj, hy'⟩ <;> rcases hget k z hz' with ⟨rfl, rfl⟩ | ⟨hk, hz''⟩
    · exact absurd rfl hjk
    · rcases hapx k z hk hz'' with h1 | h1
      · exact .inl fun e => h1 e.symm
      · cases hA1 : A' with
        | none => exact .inr rfl
        | some a => exact .inl (by rw [h1]; simp)
    · exact hapx j y hj hy'
    · exact h.apart j k y z hjk hy' hz''
theorem OwGH.keptT {w w' : World} {lo hi : Nat} {A : Option Addr} {n c : Nat} {hs : List (Option Addr × Nat × Nat)} {rows : List (List Int)} (h : OwGH w lo hi A n c hs rows) (hE : Ext w w') (hh : hi ≤ w.heap.size) : OwGH w' lo w'.heap.size A n c hs rows := by
  have hz := hE.size
  have h1 := h.ext hE
  exact ⟨h1.ow, fun k hk => by have := h1.top k hk; omega, h1.hl, fun i x r hx hr => (h1.row i x r hx hr).mono (Nat.le_refl _) (by omega), h1.apart⟩

end Go.Proofs.Ytbaljgdepicigaa
