/-
  Words for several growing slices of the call's own, side by side.
-/
import Derived.Test.YtbaljgdepicigaaDoorBase
import Derived.Test.YtbaljgdepicigaaDoorMgA
import Derived.Test.YtbaljgdepicigaaDoorLib
import Derived.Test.YtbaljgdepicigaaDoorAid
import Derived.Test.YtbaljgdepicigaaDoorGrid
namespace Go.Proofs.YtbaljgdepicigaaDoor
open Go.RowKit
set_option linter.unusedVariables false

def bl (A : Option Addr) : Option Nat := A.map (·.block)
def Ap (b b' : Option Nat) : Prop := ∀ k, b = some k → b' ≠ some k
theorem Ap.symm {b b' : Option Nat} (h : Ap b b') : Ap b' b := fun k e e2 => h k e2 e
theorem Ap.no (b : Option Nat) : Ap none b := fun k e => by cases e
theorem Ap.ow {A : Option Addr} {b row : Option Nat} (h : Ap b (bl A)) (hr : ∀ k, row = some k → b = some k) : A.map (·.block) ≠ row ∨ A = none := by
  cases A with
  | none => exact .inr rfl
  | some a => exact .inl fun e => h a.block (hr _ e.symm) rfl
/-- Where a slice lies behind a step: where it lay, nowhere, or in new memory. -/
def At (w : World) (b b' : Option Nat) : Prop := b' = none ∨ b' = b ∨ ∀ k, b' = some k → w.heap.size ≤ k
theorem Ap.moved {w : World} {b b' x : Option Nat} (h : Ap b x) (hx : ∀ k, x = some k → k < w.heap.size) (ha : At w b b') : Ap b' x := by
  rcases ha with e | e | e
  · rw [e]; exact Ap.no _
  · rw [e]; exact h
  · intro k e1 e2
    have := e k e1
    have := hx k e2
    omega
theorem grown_of_ext {w w' : World} (h : Ext w w') (row : Option Nat) : w.grownBy w' row := ⟨h.os, h.tape, h.output, h.size, fun i hi _ => Ext.block h hi⟩
def Fre (A : Option Addr) (hs : List (Option Addr × Nat × Nat)) (b : Option Nat) : Prop := Ap b (bl A) ∧ ∀ (i : Nat) x, hs[i]? = some x → Ap b (bl x.1)
theorem OwGH.kept {w w' : World} {lo hi : Nat} {A : Option Addr} {n c : Nat} {hs : List (Option Addr × Nat × Nat)} {rows : List (List Int)} {b row : Option Nat} (h : OwGH w lo hi A n c hs rows) (hf : Fre A hs b)
    (hg : w.grownBy w' row) (hr : ∀ k, row = some k → b = some k) (hhi : hi ≤ w'.heap.size) : OwGH w' lo w'.heap.size A n c hs rows :=
  ⟨h.ow.grown hg (hf.1.ow hr), fun k hk => by have := h.top k hk; omega, h.hl, fun i x r hx hr' => by
    have h1 := h.row i x r hx hr'
    exact ⟨h1.ow.grown hg ((hf.2 i x hx).ow hr), fun k hk => by have := h1.top k hk; omega⟩, h.apart⟩
structure DbI (w : World) (base : Nat) (A1 A2 A3 A4 A5 : Option Addr) (n1 c1 n2 c2 n3 c3 n4 c4 n5 c5 : Nat) (f s p x : List Int) (g : List (List Int)) : Prop where
  hb : base ≤ w.heap.size
  f : OwI w base A1 n1 c1 f
  s : OwI w base A2 n2 c2 s
  p : OwI w base A3 n3 c3 p
  x : OwI w base A5 n5 c5 x
  a12 : Ap (bl A1) (bl A2)
  a13 : Ap (bl A1) (bl A3)
  a15 : Ap (bl A1) (bl A5)
  a23 : Ap (bl A2) (bl A3)
  a25 : Ap (bl A2) (bl A5)
  a35 : Ap (bl A3) (bl A5)
  g : ∃ hs, OwGH w base w.heap.size A4 n4 c4 hs g ∧ Fre A4 hs (bl A1) ∧ Fre A4 hs (bl A2) ∧ Fre A4 hs (bl A3) ∧ Fre A4 hs (bl A5)
section
variable {w w' : World} {base : Nat} {A1 A2 A3 A4 A5 A' : Option Addr} {n1 c1 n2 c2 n3 c3 n4 c4 n5 c5 n' c' : Nat} {f s p x y : List Int} {g : List (List Int)}
theorem DbI.swap12 (h : DbI w base A1 A2 A3 A4 A5 n1 c1 n2 c2 n3 c3 n4 c4 n5 c5 f s p x g) : DbI w base A2 A1 A3 A4 A5 n2 c2 n1 c1 n3 c3 n4 c4 n5 c5 s f p x g := by
  obtain ⟨hs, h1, h2, h3, h4, h5⟩ := h.g
  exact ⟨h.hb, h.s, h.f, h.p, h.x, h.a12.symm, h.a23, h.a25, h.a13, h.a15, h.a35, hs, h1, h3, h2, h4, h5⟩
theorem DbI.swap13 (h : DbI w base A1 A2 A3 A4 A5 n1 c1 n2 c2 n3 c3 n4 c4 n5 c5 f s p x g) : DbI w base A3 A2 A1 A4 A5 n3 c3 n2 c2 n1 c1 n4 c4 n5 c5 p s f x g := by
  obtain ⟨hs, h1, h2, h3, h4, h5⟩ := h.g
  exact ⟨h.hb, h.p, h.s, h.f, h.x, h.a23.symm, h.a13.symm, h.a35, h.a12.symm, h.a25, h.a15, hs, h1, h4, h3, h2, h5⟩
theorem DbI.swap15 (h : DbI w base A1 A2 A3 A4 A5 n1 c1 n2 c2 n3 c3 n4 c4 n5 c5 f s p x g) : DbI w base A5 A2 A3 A4 A1 n5 c5 n2 c2 n3 c3 n4 c4 n1 c1 x s p f g := by
  obtain ⟨hs, h1, h2, h3, h4, h5⟩ := h.g
  exact ⟨h.hb, h.x, h.s, h.p, h.f, h.a25.symm, h.a35.symm, h.a15.symm, h.a23, h.a12.symm, h.a13.symm, hs, h1, h5, h3, h4, h2⟩
theorem OwI.lt (h : OwI w base A' n' c' y) : ∀ k, bl A' = some k → k < w.heap.size := fun k hk => (h.block k hk).2
/-- One of the slices is set anew or grows. -/
theorem DbI.put1 (h : DbI w base A1 A2 A3 A4 A5 n1 c1 n2 c2 n3 c3 n4 c4 n5 c5 f s p x g) {row : Option Nat} (hg : w.grownBy w' row) (hr : ∀ k, row = some k → bl A1 = some k)
    (ho : OwI w' base A' n' c' y) (ha : At w (bl A1) (bl A')) : DbI w' base A' A2 A3 A4 A5 n' c' n2 c2 n3 c3 n4 c4 n5 c5 y s p x g := by
  obtain ⟨hs, h1, h2, h3, h4, h5⟩ := h.g
  have hz := hg.size
  refine ⟨by have := h.hb; omega, ho, h.s.grown hg (h.a12.ow hr), h.p.grown hg (h.a13.ow hr), h.x.grown hg (h.a15.ow hr), h.a12.moved h.s.lt ha, h.a13.moved h.p.lt ha, h.a15.moved h.x.lt ha, h.a23, h.a25, h.a35, hs, h1.kept h2 hg hr hz, ⟨h2.1.moved (fun k hk => h1.top k hk) ha, fun i z hz => ?_⟩, h3, h4, h5⟩
  refine (h2.2 i z hz).moved (fun k hk => ?_) ha
  have hi : i < g.length := by rw [← h1.hl]; exact (List.getElem?_eq_some_iff.1 hz).1
  exact (h1.row i z _ hz (List.getElem?_eq_getElem hi)).top k hk
theorem DbI.put2 (h : DbI w base A1 A2 A3 A4 A5 n1 c1 n2 c2 n3 c3 n4 c4 n5 c5 f s p x g) {row : Option Nat} (hg : w.grownBy w' row) (hr : ∀ k, row = some k → bl A2 = some k)
    (ho : OwI w' base A' n' c' y) (ha : At w (bl A2) (bl A')) : DbI w' base A1 A' A3 A4 A5 n1 c1 n' c' n3 c3 n4 c4 n5 c5 f y p x g := (h.swap12.put1 hg hr ho ha).swap12
theorem DbI.put3 (h : DbI w base A1 A2 A3 A4 A5 n1 c1 n2 c2 n3 c3 n4 c4 n5 c5 f s p x g) {row : Option Nat} (hg : w.grownBy w' row) (hr : ∀ k, row = some k → bl A3 = some k)
    (ho : OwI w' base A' n' c' y) (ha : At w (bl A3) (bl A')) : DbI w' base A1 A2 A' A4 A5 n1 c1 n2 c2 n' c' n4 c4 n5 c5 f s y x g := (h.swap13.put1 hg hr ho ha).swap13
theorem DbI.put5 (h : DbI w base A1 A2 A3 A4 A5 n1 c1 n2 c2 n3 c3 n4 c4 n5 c5 f s p x g) {row : Option Nat} (hg : w.grownBy w' row) (hr : ∀ k, row = some k → bl A5 = some k)
    (ho : OwI w' base A' n' c' y) (ha : At w (bl A5) (bl A')) : DbI w' base A1 A2 A3 A4 A' n1 c1 n2 c2 n3 c3 n4 c4 n' c' f s p y g := (h.swap15.put1 hg hr ho ha).swap15
theorem DbI.ext (h : DbI w base A1 A2 A3 A4 A5 n1 c1 n2 c2 n3 c3 n4 c4 n5 c5 f s p x g) (hE : Ext w w') : DbI w' base A1 A2 A3 A4 A5 n1 c1 n2 c2 n3 c3 n4 c4 n5 c5 f s p x g :=
  h.put1 (grown_of_ext hE none) (fun k e => by cases e) (h.f.ext hE) (.inr (.inl rfl))
/-- New memory. -/
theorem At.new {A A' : Option Addr} (h : OwI w' w.heap.size A' n' c' y) : At w (bl A) (bl A') := .inr (.inr fun k hk => (h.block k hk).1)
theorem At.push {A A' : Option Addr} (h : A'.map (·.block) = A.map (·.block) ∨ A'.map (·.block) = some w.heap.size) : At w (bl A) (bl A') := by
  rcases h with h | h
  · exact .inr (.inl h)
  · exact .inr (.inr fun k hk => by
      have h2 : some w.heap.size = some k := h.symm.trans hk
      cases h2
      exact Nat.le_refl _)
theorem DbI.new1 (h : DbI w base A1 A2 A3 A4 A5 n1 c1 n2 c2 n3 c3 n4 c4 n5 c5 f s p x g) (hE : Ext w w') (ho : OwI w' w.heap.size A' n' c' y) : DbI w' base A' A2 A3 A4 A5 n' c' n2 c2 n3 c3 n4 c4 n5 c5 y s p x g :=
  h.put1 (grown_of_ext hE none) (fun k e => by cases e) (ho.mono h.hb) (At.new ho)
theorem DbI.new2 (h : DbI w base A1 A2 A3 A4 A5 n1 c1 n2 c2 n3 c3 n4 c4 n5 c5 f s p x g) (hE : Ext w w') (ho : OwI w' w.heap.size A' n' c' y) : DbI w' base A1 A' A3 A4 A5 n1 c1 n' c' n3 c3 n4 c4 n5 c5 f y p x g :=
  h.put2 (grown_of_ext hE none) (fun k e => by cases e) (ho.mono h.hb) (At.new ho)
theorem DbI.new5 (h : DbI w base A1 A2 A3 A4 A5 n1 c1 n2 c2 n3 c3 n4 c4 n5 c5 f s p x g) (hE : Ext w w') (ho : OwI w' w.heap.size A' n' c' y) : DbI w' base A1 A2 A3 A4 A' n1 c1 n2 c2 n3 c3 n4 c4 n' c' f s p y g :=
  h.put5 (grown_of_ext hE none) (fun k e => by cases e) (ho.mono h.hb) (At.new ho)
theorem DbI.push1 (h : DbI w base A1 A2 A3 A4 A5 n1 c1 n2 c2 n3 c3 n4 c4 n5 c5 f s p x g) (ho : OwI w' base A' n' c' y) (hg : w.grownBy w' (A1.map (·.block))) (ha : A'.map (·.block) = A1.map (·.block) ∨ A'.map (·.block) = some w.heap.size) :
    DbI w' base A' A2 A3 A4 A5 n' c' n2 c2 n3 c3 n4 c4 n5 c5 y s p x g := h.put1 hg (fun k e => e) ho (At.push ha)
theorem DbI.push2 (h : DbI w base A1 A2 A3 A4 A5 n1 c1 n2 c2 n3 c3 n4 c4 n5 c5 f s p x g) (ho : OwI w' base A' n' c' y) (hg : w.grownBy w' (A2.map (·.block))) (ha : A'.map (·.block) = A2.map (·.block) ∨ A'.map (·.block) = some w.heap.size) :
    DbI w' base A1 A' A3 A4 A5 n1 c1 n' c' n3 c3 n4 c4 n5 c5 f y p x g := h.put2 hg (fun k e => e) ho (At.push ha)
theorem DbI.push3 (h : DbI w base A1 A2 A3 A4 A5 n1 c1 n2 c2 n3 c3 n4 c4 n5 c5 f s p x g) (ho : OwI w' base A' n' c' y) (hg : w.grownBy w' (A3.map (·.block))) (ha : A'.map (·.block) = A3.map (·.block) ∨ A'.map (·.block) = some w.heap.size) :
    DbI w' base A1 A2 A' A4 A5 n1 c1 n2 c2 n' c' n4 c4 n5 c5 f s y x g := h.put3 hg (fun k e => e) ho (At.push ha)
theorem DbI.nil1 (h : DbI w base A1 A2 A3 A4 A5 n1 c1 n2 c2 n3 c3 n4 c4 n5 c5 f s p x g) : DbI w base none A2 A3 A4 A5 0 0 n2 c2 n3 c3 n4 c4 n5 c5 [] s p x g :=
  h.put1 (grown_of_ext (Ext.refl w) none) (fun k e => by cases e) (OwI.nil _ _) (.inl rfl)
theorem DbI.nil2 (h : DbI w base A1 A2 A3 A4 A5 n1 c1 n2 c2 n3 c3 n4 c4 n5 c5 f s p x g) : DbI w base A1 none A3 A4 A5 n1 c1 0 0 n3 c3 n4 c4 n5 c5 f [] p x g :=
  h.put2 (grown_of_ext (Ext.refl w) none) (fun k e => by cases e) (OwI.nil _ _) (.inl rfl)
theorem DbI.nil5 (h : DbI w base A1 A2 A3 A4 A5 n1 c1 n2 c2 n3 c3 n4 c4 n5 c5 f s p x g) : DbI w base A1 A2 A3 A4 none n1 c1 n2 c2 n3 c3 n4 c4 0 0 f s p [] g :=
  h.put5 (grown_of_ext (Ext.refl w) none) (fun k e => by cases e) (OwI.nil _ _) (.inl rfl)
theorem DbI.tail1 (h : DbI w base A1 A2 A3 A4 A5 n1 c1 n2 c2 n3 c3 n4 c4 n5 c5 f s p x g) {k : Nat} (hk : k ≤ n1) : DbI w base (tailA A1 c1 k) A2 A3 A4 A5 (n1 - k) (c1 - k) n2 c2 n3 c3 n4 c4 n5 c5 (f.drop k) s p x g :=
  h.put1 (grown_of_ext (Ext.refl w) none) (fun k e => by cases e) (h.f.tail hk) (.inr (.inl (tailA_block A1 c1 k)))
theorem DbI.tail2 (h : DbI w base A1 A2 A3 A4 A5 n1 c1 n2 c2 n3 c3 n4 c4 n5 c5 f s p x g) {k : Nat} (hk : k ≤ n2) : DbI w base A1 (tailA A2 c2 k) A3 A4 A5 n1 c1 (n2 - k) (c2 - k) n3 c3 n4 c4 n5 c5 f (s.drop k) p x g :=
  h.put2 (grown_of_ext (Ext.refl w) none) (fun k e => by cases e) (h.s.tail hk) (.inr (.inl (tailA_block A2 c2 k)))
/-- The row at hand goes to the rows. -/
theorem DbI.pushedG {hs : List (Option Addr × Nat × Nat)} (h : DbI w base A1 A2 A3 A4 A5 n1 c1 n2 c2 n3 c3 n4 c4 n5 c5 f s p x g)
    (hh : OwGH w base w.heap.size A4 n4 c4 hs g ∧ Fre A4 hs (bl A1) ∧ Fre A4 hs (bl A2) ∧ Fre A4 hs (bl A3) ∧ Fre A4 hs (bl A5))
    (hn : Ow w' base 23 A' (n4 + 1) c' (hs.map sv ++ [.slice A5 n5 c5])) (hg : w.grownBy w' (A4.map (·.block))) (ha : A'.map (·.block) = A4.map (·.block) ∨ A'.map (·.block) = some w.heap.size) :
    DbI w' base A1 A2 A3 A' none n1 c1 n2 c2 n3 c3 (n4 + 1) c' 0 0 f s p [] (g ++ [x]) := by
  obtain ⟨h1, f1, f2, f3, f5⟩ := hh
  have hz := hg.size
  have hln : hs.length = n4 := by have := h1.ow.len; simpa using this
  have hrn : g.length = n4 := by rw [← h1.hl]; exact hln
  have hat := At.push (w := w) ha
  have hid : ∀ k, A4.map (·.block) = some k → bl A4 = some k := fun k e => e
  have hcase : ∀ (q : Nat) (z : Option Addr × Nat × Nat), (hs ++ [(A5, n5, c5)])[q]? = some z → (q < n4 ∧ hs[q]? = some z) ∨ (q = n4 ∧ z = (A5, n5, c5)) := by
    intro q z hz
    by_cases e : q < n4
    · rw [List.getElem?_append_left (by omega)] at hz; exact .inl ⟨e, hz⟩
    · have hqk : q = n4 := by
        have := (List.getElem?_eq_some_iff.1 hz).1
        simp at this; omega
      subst hqk
      rw [List.getElem?_append_right (by omega), hln, Nat.sub_self] at hz
      simp at hz
      exact .inr ⟨rfl, hz.symm⟩
  have hfre : ∀ b, (∀ k, b = some k → k < w.heap.size) → Fre A4 hs b → Ap b (bl A5) → Fre A' (hs ++ [(A5, n5, c5)]) b := fun b hb hf h5 => by
    refine ⟨(hf.1.symm.moved hb hat).symm, fun i z hz => ?_⟩
    rcases hcase i z hz with ⟨_, hz'⟩ | ⟨_, rfl⟩
    · exact hf.2 i z hz'
    · exact h5
  have hrowlt : ∀ (i : Nat) z, hs[i]? = some z → ∀ k, bl z.1 = some k → k < w.heap.size := fun i z hz k hk => by
    have hi : i < g.length := by rw [← h1.hl]; exact (List.getElem?_eq_some_iff.1 hz).1
    exact (h1.row i z _ hz (List.getElem?_eq_getElem hi)).top k hk
  have hne : ∀ (i : Nat) z, hs[i]? = some z → Ap (bl A4) (bl z.1) := fun i z hz k e e2 => by
    have hi : i < g.length := by rw [← h1.hl]; exact (List.getElem?_eq_some_iff.1 hz).1
    rcases h1.ne_row hz (List.getElem?_eq_getElem hi) with h3 | h3
    · exact h3 (e.trans e2.symm)
    · rw [h3] at e; cases e
  have hx5 : OwI w' base A5 n5 c5 x := h.x.grown hg (f5.1.symm.ow hid)
  refine ⟨by have := h.hb; omega, h.f.grown hg (f1.1.symm.ow hid), h.s.grown hg (f2.1.symm.ow hid), h.p.grown hg (f3.1.symm.ow hid), OwI.nil _ _, h.a12, h.a13, (Ap.no _).symm, h.a23, (Ap.no _).symm, (Ap.no _).symm, hs ++ [(A5, n5, c5)], ⟨by simpa [sv] using hn, fun k hk => (hn.block k hk).2, by simp [h1.hl], fun i z r hz' hr' => ?_, fun i j z y hij hx hy => ?_⟩, hfre _ h.f.lt f1 h.a15, hfre _ h.s.lt f2 h.a25, hfre _ h.p.lt f3 h.a35, ⟨Ap.no _, fun i z _ => Ap.no _⟩⟩
  · rcases hcase i z hz' with ⟨hi, hx'⟩ | ⟨rfl, rfl⟩
    · rw [List.getElem?_append_left (by omega)] at hr'
      have h3 := h1.row i z r hx' hr'
      exact ⟨h3.ow.grown hg ((hne i z hx').ow hid), fun k hk => by have := h3.top k hk; omega⟩
    · rw [List.getElem?_append_right (by omega), hrn, Nat.sub_self] at hr'
      simp at hr'
      subst hr'
      exact ⟨hx5, fun k hk => (hx5.block k hk).2⟩
  · have hsep : ∀ (i : Nat) z, hs[i]? = some z → z.1.map (·.block) ≠ A5.map (·.block) ∨ z.1 = none := fun i z hz => by
      cases hz1 : z.1 with
      | none => exact .inr rfl
      | some a => exact .inl fun e => f5.2 i z hz a.block e.symm (by rw [hz1]; rfl)
    rcases hcase i z hx with ⟨hi, hx'⟩ | ⟨rfl, rfl⟩ <;> rcases hcase j y hy with ⟨hj, hy'⟩ | ⟨rfl, rfl⟩
    · exact h1.apart i j z y hij hx' hy'
    · exact hsep i z hx'
    · rcases hsep j y hy' with h7 | h7
      · exact .inl fun e => h7 e.symm
      · cases hB1 : A5 with
        | none => exact .inr rfl
        | some a => exact .inl (by rw [h7]; simp)
    · exact absurd rfl hij
end
theorem push_game {ops : Array Oper} {rest : List Oper} {o : Oper} {a : Act} {Q : Exit → Act → World → Prop} {w : World} {base : Nat} {A1 A2 A3 A4 A5 : Option Addr} {n1 c1 n2 c2 n3 c3 n4 c4 n5 c5 : Nat} {f s p x : List Int} {g : List (List Int)} (hgd : o.guard = none) (q z : Operand)
    (ho : o.op = .call { callee := .builtin .append, args := #[q, z], argTypes := #[94, 94] })
    (hs : a.eval q = .slice A4 n4 c4) (h : DbI w base A1 A2 A3 A4 A5 n1 c1 n2 c2 n3 c3 n4 c4 n5 c5 f s p x g) (X : Nat) (hx : a.eval z = .slice (some ⟨X, 0, none⟩) 1 1) (hX : w.cell? ⟨X, 0, none⟩ = some (.slice A5 n5 c5))
    (hsz : n4 + 1 ≤ 1073741824)
    (hk : ∀ A' c' w', DbI w' base A1 A2 A3 A' none n1 c1 n2 c2 n3 c3 (n4 + 1) c' 0 0 f s p [] (g ++ [x]) → OwI w' base A5 n5 c5 x → (∀ y : World, Ext y w → y.heap.size ≤ base → Ext y w') → wpList Tryd.prog ops Q rest (a.put o.dst (.slice A' (n4 + 1) c')) w') : wpList Tryd.prog ops Q (o :: rest) a w := by
  obtain ⟨hs1, hh⟩ := h.g
  obtain ⟨i0, hi0, hz0, hz1, hz2⟩ := info_parts info_sl
  refine wpList_push_any hgd q z 94 ho i0 _ 24 Tryd.underlying94 hi0 hz0 hz1 hz2 rfl hs hh.1.ow (some ⟨X, 0, none⟩) 1 1 [.slice A5 n5 c5] hx
    ⟨rfl, Nat.le_refl _, by omega, fun _ => ⟨X, 0, rfl, World.block_lt_of_cell? w _ hX, fun k v hv => ?_⟩⟩ (by simp [Value.oneCell']) (by omega) (by omega) h.hb ?_
  · match k with
    | 0 => simp at hv; subst hv; exact hX
    | k + 1 => simp at hv
  · intro A' c' w' h1 h2 h3
    refine hk A' c' w' (h.pushedG hh h1 h2 h3) (h.x.grown h2 (hh.2.2.2.2.1.symm.ow fun k e => e)) fun z hz hl => hz.grown h2 fun k hk' => ?_
    have := (hh.1.ow.block k hk').1
    omega
/-- The start: one slice and no rows. -/
theorem DbI.start {w : World} {base : Nat} {A1 A4 : Option Addr} {n1 c1 c4 : Nat} {f : List Int} (hb : base ≤ w.heap.size) (h : OwI w base A1 n1 c1 f) (hg : Ow w base 23 A4 0 c4 []) (ha : Ap (bl A1) (bl A4)) :
    DbI w base A1 none none A4 none n1 c1 0 0 0 0 0 c4 0 0 f [] [] [] [] :=
  ⟨hb, h, OwI.nil _ _, OwI.nil _ _, OwI.nil _ _, (Ap.no _).symm, (Ap.no _).symm, (Ap.no _).symm, Ap.no _, Ap.no _, Ap.no _, [], ⟨hg, fun k hk => (hg.block k hk).2, rfl, (fun i x r hx => by simp at hx), (fun i j x y _ hx => by simp at hx)⟩, ⟨ha, fun i z hz => by simp at hz⟩, ⟨Ap.no _, fun i z hz => by simp at hz⟩, ⟨Ap.no _, fun i z hz => by simp at hz⟩, ⟨Ap.no _, fun i z hz => by simp at hz⟩⟩
theorem DbI.start_nil {w : World} {base : Nat} {A1 : Option Addr} {n1 c1 : Nat} {f : List Int} (hb : base ≤ w.heap.size) (h : OwI w base A1 n1 c1 f) :
    DbI w base A1 none none none none n1 c1 0 0 0 0 0 0 0 0 f [] [] [] [] := DbI.start hb h (Ow.nil w base _) (Ap.no _).symm
theorem ow_lit_rows (w : World) {base : Nat} (hb : base ≤ w.heap.size) : Ow (w.alloc (.cells #[] 23)) base 23 (some ⟨w.heap.size, 0, none⟩) 0 0 [] :=
  ⟨rfl, Nat.le_refl _, by omega, .inr ⟨w.heap.size, 0, _, rfl, hb, heap_alloc_new w _, by simp, fun k v hk => by simp at hk⟩⟩
/-- The end: the rows come back. -/
theorem DbI.rows {w : World} {base : Nat} {A1 A2 A3 A4 A5 : Option Addr} {n1 c1 n2 c2 n3 c3 n4 c4 n5 c5 : Nat} {f s p x : List Int} {g : List (List Int)} (h : DbI w base A1 A2 A3 A4 A5 n1 c1 n2 c2 n3 c3 n4 c4 n5 c5 f s p x g) : OwG w base w.heap.size A4 n4 c4 g := by
  obtain ⟨hs, h1, _⟩ := h.g
  exact ⟨hs, h1⟩
/-- The rows begin as an empty literal. -/
theorem DbI.litG {w : World} {base : Nat} {A1 A2 A3 A4 A5 : Option Addr} {n1 c1 n2 c2 n3 c3 n4 c4 n5 c5 : Nat} {f s p x : List Int} {g : List (List Int)} (h : DbI w base A1 A2 A3 A4 A5 n1 c1 n2 c2 n3 c3 n4 c4 n5 c5 f s p x g) :
    DbI (w.alloc (.cells #[] 23)) base A1 A2 A3 (some ⟨w.heap.size, 0, none⟩) A5 n1 c1 n2 c2 n3 c3 0 0 n5 c5 f s p x [] := by
  have hE := Ext.one w (.cells #[] 23)
  have hg := ow_lit_rows w h.hb
  have hf : ∀ b, (∀ k, b = some k → k < w.heap.size) → Fre (some ⟨w.heap.size, 0, none⟩) [] b := fun b hb => ⟨fun k e e2 => by have := hb k e; simp [bl] at e2; omega, fun i z hz => by simp at hz⟩
  exact ⟨by have := h.hb; simp; omega, h.f.ext hE, h.s.ext hE, h.p.ext hE, h.x.ext hE, h.a12, h.a13, h.a15, h.a23, h.a25, h.a35, [], ⟨hg, fun k hk => (hg.block k hk).2, rfl, (fun i x r hx => by simp at hx), (fun i j x y _ hx => by simp at hx)⟩, hf _ h.f.lt, hf _ h.s.lt, hf _ h.p.lt, hf _ h.x.lt⟩

end Go.Proofs.YtbaljgdepicigaaDoor
