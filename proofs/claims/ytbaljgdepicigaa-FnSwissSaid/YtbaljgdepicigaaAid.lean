/-
  Contracts of the helpers of the laws: copies, comparisons, marks.
-/
import Derived.Test.YtbaljgdepicigaaBase
import Derived.Test.YtbaljgdepicigaaMathA
import Derived.Test.YtbaljgdepicigaaLib
namespace Go.Proofs.Ytbaljgdepicigaa
open Go.RowKit
set_option linter.unusedVariables false

/-- A new slice of ints comes back. -/
def RetI (w : World) (xs : List Int) (e : Ending) (w' : World) : Prop := ∃ A c, e = .returned (.slice A xs.length c) ∧ OwI w' w.heap.size A xs.length c xs ∧ Ext w w'
theorem RetI.mk {w w' : World} {xs : List Int} {e : Ending} {A : Option Addr} {n c : Nat} (he : e = .returned (.slice A n c)) (ho : OwI w' w.heap.size A n c xs) (hE : Ext w w') : RetI w xs e w' := by
  have hl := ho.len
  subst hl
  exact ⟨A, c, he, ho, hE⟩
/-- A slice of the call's own whose block lies between lo and hi. -/
structure InI (w : World) (lo hi : Nat) (A : Option Addr) (n c : Nat) (xs : List Int) : Prop where
  ow : OwI w lo A n c xs
  top : ∀ k, A.map (·.block) = some k → k < hi
section
variable {w w' : World} {lo hi lo' hi' : Nat} {A A' : Option Addr} {n c n' c' : Nat} {xs xs' : List Int}
theorem InI.mk_ (h : OwI w lo A n c xs) : InI w lo w.heap.size A n c xs := ⟨h, fun k hk => (h.block k hk).2⟩
theorem InI.ints (h : InI w lo hi A n c xs) : Ints w A n c xs := h.ow.ints
theorem InI.ext (h : InI w lo hi A n c xs) (hE : Ext w w') : InI w' lo hi A n c xs := ⟨h.ow.ext hE, h.top⟩
theorem InI.sep (h : InI w lo hi A n c xs) (h' : InI w lo' hi' A' n' c' xs') (hd : hi ≤ lo' ∨ hi' ≤ lo) : A.map (·.block) ≠ A'.map (·.block) ∨ A = none := by
  cases hA : A.map (·.block) with
  | none => exact .inr (by cases A <;> simp_all)
  | some k =>
    refine .inl fun e => ?_
    have h1 := (h.ow.block k hA).1
    have h2 := h.top k hA
    have h3 := (h'.ow.block k e.symm).1
    have h4 := h'.top k e.symm
    omega
theorem InI.only {l u : Nat} (h : InI w lo hi A n c xs) (ho : Only l u w w') (hd : hi ≤ l ∨ u ≤ lo) : InI w' lo hi A n c xs :=
  ⟨⟨h.ow.ow.keep fun k hk => ho.block k (h.ow.block k hk).2 (by have := (h.ow.block k hk).1; have := h.top k hk; omega), h.ow.wf⟩, h.top⟩
theorem InI.grown (h : InI w lo hi A n c xs) (h' : InI w lo' hi' A' n' c' xs') (hg : w.grownBy w' (A'.map (·.block))) (hd : hi ≤ lo' ∨ hi' ≤ lo) : InI w' lo hi A n c xs :=
  ⟨h.ow.grown hg (h.sep h' hd), h.top⟩
theorem InI.ext_mark {w0 : World} (h : InI w lo hi A n c xs) (hE : Ext w0 w) (hg : w.grownBy w' (A.map (·.block))) (hl : w0.heap.size ≤ lo) : Ext w0 w' :=
  hE.grown hg fun k hk => by have := (h.ow.block k hk).1; omega
end
/-- k, k + 1, .. -/
def marks (k : Int) (n : Nat) : List Int := (List.range n).map fun (j : Nat) => k + j
theorem marks_len (k : Int) (n : Nat) : (marks k n).length = n := by simp [marks]
theorem marks_get (k : Int) {n j : Nat} (h : j < n) : (marks k n)[j]? = some (k + j) := by simp [marks, h]
theorem set_marks (k : Int) {xs : List Int} {n j : Nat} {x : Int} (hl : xs.length = n) (hj : xs[j]? = some x) :
    (((marks k n).take j) ++ xs.drop j).set j (k + j) = (marks k n).take (j + 1) ++ xs.drop (j + 1) := by
  have hjl : j < xs.length := (List.getElem?_eq_some_iff.1 hj).1
  have hlk : ((marks k n).take j).length = j := by simp [marks]; omega
  rw [List.set_append, if_neg (by omega), hlk, Nat.sub_self, take_snoc_of (marks_get k (by omega)), List.drop_eq_getElem_cons hjl, List.set_cons_zero]
  simp
-- markIntS
theorem markIntS_any {base : Nat} (A : Option Addr) (n c : Nat) (xs : List Int) (k : Int) (w : World) (h : OwI w base A n c xs) (h0 : 0 ≤ k) (h1 : k + n ≤ 4294967296) :
    Calls Try.prog 50 #[.slice A n c, .int .i64 k] w fun e w' => e = .returned (.int .i64 (k + n)) ∧ OwI w' base A n c (marks k n) ∧ w.grownBy w' (A.map (·.block)) := by
  have HL := hide h.len
  have hle := h.le
  go_enter Try.func50, Try.ntmps50
  go_wp2
  go_loopw [1, 5] (fun m i wr => ∃ j : Nat, j ≤ n ∧ i = .int .i64 j ∧ m = .int .i64 (k + j) ∧ OwI wr base A n c ((marks k n).take j ++ xs.drop j) ∧ w.grownBy wr (A.map (·.block))) (fun _ i _ => n - (intOf i).toNat)
  case atStart => exact ⟨0, Nat.zero_le _, rfl, by simp, by simpa using h, grown_refl _ _⟩
  case round =>
    obtain ⟨j, hj, rfl, rfl, ho, hg⟩ := hrel
    by_cases hlt : j < n
    · obtain ⟨b, off, x, rfl, hb, hbl, hx, wx, hc, hf⟩ := ho.get hlt
      have hxx : ∃ y, xs[j]? = some y := ⟨_, List.getElem?_eq_getElem (by have := HL.out; omega)⟩
      obtain ⟨y, hy⟩ := hxx
      have HO := hide (ho.store rfl hlt (x := k + j) ⟨by omega, by omega⟩)
      have HX := hide hy; have HG := hide hg; clear hx hy hg ho
      go_wp2
      go_roundw
      case rel =>
        have ho := HO.out
        rw [set_marks k HL.out HX.out] at ho
        exact ⟨j + 1, by omega, by go_num, by go_num, ho, grown_trans HG.out (grown_setCell _ _ _) (.inr (.inl rfl))⟩
      case measure => (simp [intOf] <;> omega)
    · have : j = n := by omega
      subst this
      have HO := hide ho; have HG := hide hg; clear ho hg
      go_wp2
      go_ret
      have ho := HO.out
      rw [take_len (marks_len k j), List.drop_of_length_le (by have := HL.out; omega), List.append_nil] at ho
      exact ⟨rfl, ho, HG.out⟩
-- heldIntS
theorem heldIntS_any (A : Option Addr) (n c : Nat) (k : Int) (w : World) (h : Ints w A n c (marks k n)) (h0 : 0 ≤ k) (h1 : k + n ≤ 4294967296) :
    Calls Try.prog 51 #[.slice A n c, .int .i64 k] w fun e w' => e = .returned (.int .i64 (k + n)) ∧ w = w' := by
  have hle := h.le
  go_enter Try.func51, Try.ntmps51
  go_wp2
  go_loop [1, 5] (fun m i => ∃ j : Nat, j ≤ n ∧ i = .int .i64 j ∧ m = .int .i64 (k + j)) (fun _ i => n - (intOf i).toNat)
  case atStart => exact ⟨0, Nat.zero_le _, rfl, by simp⟩
  case round =>
    obtain ⟨j, hj, rfl, rfl⟩ := hrel
    by_cases hlt : j < n
    · obtain ⟨b, off, x, rfl, hb, hx, wx, hc⟩ := h.get hlt
      rw [marks_get k hlt] at hx
      cases hx
      go_wp2
      go_round
      case rel => exact ⟨j + 1, by omega, by go_num, by go_num⟩
      case measure => (simp [intOf] <;> omega)
    · have : j = n := by omega
      subst this
      go_wp2
      go_ret
      exact ⟨rfl, rfl⟩
-- toIntS
theorem toIntS_any (A : Option Addr) (n c : Nat) (xs : List Int) (w : World) (h : Ints w A n c xs) (hn : n ≤ 4194304) :
    Calls Try.prog 28 #[.slice A n c] w (RetI w xs) := by
  have HL := hide h.len
  have hle := h.le
  have hmk := run_make_ints n (by omega)
  go_enter Try.func28, Try.ntmps28
  go_wp2
  have h0 := (OwI.zeros w (base := w.heap.size) n (by omega) (Nat.le_refl _))
  go_loopw [4] (fun i wr => ∃ k : Nat, k ≤ n ∧ i = .int .i64 k ∧ OwI wr w.heap.size (some ⟨w.heap.size, 0, none⟩) n n (xs.take k ++ List.replicate (n - k) 0) ∧ Ext w wr) (fun i _ => n - (intOf i).toNat)
  case atStart => exact ⟨0, Nat.zero_le _, rfl, by simpa using h0, Ext.one _ _⟩
  case round =>
    obtain ⟨k, hk, rfl, ho, hE⟩ := hrel
    by_cases hlt : k < n
    · obtain ⟨b, off, x, rfl, hb, hx, wx, hc⟩ := (h.ext hE).get hlt
      obtain ⟨b', off', y, e, hb', hlt', hy, wy, hc', hf'⟩ := ho.get hlt
      cases e
      have ho1 := ho.store rfl hlt wx
      simp only [Nat.zero_add] at hc' hf' ho1
      have HO := hide ho1
      have HX := hide hx; clear hx hy ho h0 ho1
      have HE := hide hE; clear hE
      go_wp2
      go_roundw
      case rel =>
        refine ⟨k + 1, by omega, by go_num, ?_, HE.out.setCell (Nat.le_refl _) _⟩
        have hs := HO.out
        rw [set_fill HL.out HX.out] at hs
        simpa using hs
      case measure => (simp [intOf] <;> omega)
    · have : k = n := by omega
      subst this
      have HO := hide ho; clear ho h0
      go_wp2
      go_ret
      have ho := HO.out
      rw [take_len HL.out, Nat.sub_self, List.replicate_zero, List.append_nil] at ho
      exact RetI.mk rfl ho hE
-- eqIntS
theorem eqIntS_q (A : Option Addr) (n c : Nat) (xs : List Int) (A2 : Option Addr) (n2 c2 : Nat) (ys : List Int) (w : World) (h : Ints w A n c xs) (h2 : Ints w A2 n2 c2 ys) :
    Calls Try.prog 29 #[.slice A n c, .slice A2 n2 c2] w fun e w' => e = .returned (.bool (decide (xs = ys))) ∧ Qt w w' := by
  have HL := hide h.len
  have HL2 := hide h2.len
  have hle := h.le
  have hmx := h.max
  by_cases hnn : n = n2
  · subst hnn
    go_enter Try.func29, Try.ntmps29
    go_wp2
    go_loopw [5] (fun i wr => ∃ k : Nat, k ≤ n ∧ i = .int .i64 k ∧ Hid (xs.take k = ys.take k) ∧ Qt w wr) (fun i _ => n - (intOf i).toNat)
    case atStart => exact ⟨0, Nat.zero_le _, rfl, hide (by simp), Qt.refl _⟩
    case round =>
      obtain ⟨k, hk, rfl, HT, hE⟩ := hrel
      by_cases hlt : k < n
      · obtain ⟨b, off, x, rfl, hb, hx, wx, hc⟩ := (h.ext hE.ext).get hlt
        obtain ⟨b', off', y, rfl, hb', hy, wy, hc'⟩ := (h2.ext hE.ext).get hlt
        have HX := hide hx; clear hx
        have HY := hide hy; clear hy
        have HE := hide hE; clear hE
        go_wp2
        go_quiet (fail)
        go_wp2
        · have e : x ≠ y := by simpa using ‹(x != y) = true›
          go_ret
          exact ⟨ret_bool (by symm; rw [decide_eq_false_iff_not]; rintro rfl; have := HX.out.symm.trans HY.out; simp at this; exact e this), HE.out.drewN _⟩
        · have e : x = y := by simpa using ‹(x != y) = false›
          subst e
          go_roundw
          case rel => exact ⟨k + 1, by omega, by go_num, hide (by rw [take_snoc_of HX.out, take_snoc_of HY.out, HT.out]), HE.out.drewN _⟩
          case measure => (simp [intOf] <;> omega)
      · have : k = n := by omega
        subst this
        have HE := hide hE; clear hE
        go_wp2
        go_ret
        exact ⟨ret_bool (by symm; rw [decide_eq_true_eq]; have := HT.out; rwa [take_len HL.out, take_len HL2.out] at this), HE.out⟩
  · have hne : ((n : Int) != (n2 : Int)) = true := by rw [bne_iff_ne]; omega
    go_enter Try.func29, Try.ntmps29
    go_wp2
    go_ret
    exact ⟨ret_bool (by symm; rw [decide_eq_false_iff_not]; rintro rfl; exact hnn (HL.out.symm.trans HL2.out)), Qt.refl _⟩
theorem eqIntS_any (A : Option Addr) (n c : Nat) (xs : List Int) (A2 : Option Addr) (n2 c2 : Nat) (ys : List Int) (w : World) (h : Ints w A n c xs) (h2 : Ints w A2 n2 c2 ys) :
    Calls Try.prog 29 #[.slice A n c, .slice A2 n2 c2] w fun e w' => e = .returned (.bool (decide (xs = ys))) ∧ Ext w w' :=
  (eqIntS_q A n c xs A2 n2 c2 ys w h h2).mono fun _ _ ⟨he, hq⟩ => ⟨he, hq.ext⟩
-- frames
theorem i64_of_wf {n : Int} (h : (Lit.int .i64 n).wf = true) : I64 n := by
  simp only [Lit.wf, Bool.and_eq_true, decide_eq_true_eq] at h
  have h1 : IntKind.i64.min = -9223372036854775808 := by decide
  have h2 : IntKind.i64.max = 9223372036854775807 := by decide
  exact ⟨by omega, by omega⟩
theorem ints_of_open {w : World} {a : Addr} {len cap : Nat} {zs : List Int} (hl : len ≤ cap) (hm : cap ≤ maxLen) (hz : zs.length = cap)
    (hcell : ∀ i, i < zs.length → w.cell? (a.add i) = some (.int .i64 (zs.getD i 0))) (hwz : ∀ n ∈ zs, (Lit.int .i64 n).wf = true) : Ints w (some a) len cap (zs.take len) where
  rd := {
    len := by simp; omega
    le := hl
    max := by simp only [maxLen] at hm; omega
    at_ := fun h0 => by
      have h1 := hcell 0 (by omega)
      have hs : a.spot = none := by
        simp only [Addr.add_zero', World.cell?] at h1
        split at h1
        · split at h1
          · cases h1
          · rename_i hs; simpa using hs
        · cases h1
      obtain ⟨b, off, spot⟩ := a
      cases hs
      refine ⟨b, off, rfl, World.block_lt_of_cell? w _ (by simpa using h1), fun k v hv => ?_⟩
      have hk : k < len := by
        have := (List.getElem?_eq_some_iff.1 hv).1
        simp at this; omega
      have h2 := hcell k (by omega)
      rw [Addr.add_lit] at h2
      rw [h2, ← hv]
      have hk' : k < zs.length := by omega
      simp [hk, hk'] }
  wf := fun x hx => i64_of_wf (hwz x (List.mem_of_mem_take hx))
-- marked
theorem OwI.marked {w w' : World} {lo hi : Nat} {A : Option Addr} {n c : Nat} {xs ys : List Int} (h : OwI w' lo A n c ys) (h0 : InI w lo hi A n c xs) : InI w' lo hi A n c ys := ⟨h, h0.top⟩
-- markIntS in
theorem markIntS_in {lo hi : Nat} (A : Option Addr) (n c : Nat) (xs : List Int) (k : Int) (w : World) (h : InI w lo hi A n c xs) (h0 : 0 ≤ k) (h1 : k + n ≤ 4294967296) :
    Calls Try.prog 50 #[.slice A n c, .int .i64 k] w fun e w' => e = .returned (.int .i64 (k + n)) ∧ InI w' lo hi A n c (marks k n) ∧ Only lo hi w w' :=
  (markIntS_any A n c xs k w h.ow h0 h1).mono fun _ _ ⟨he, ho, hg⟩ => ⟨he, ho.marked h, Only.of_grown hg fun k hk => ⟨(h.ow.block k hk).1, h.top k hk⟩⟩
-- results of two kinds
/-- A new slice of ints and a bool come back. -/
def RetIB (w : World) (xs : List Int) (b : Bool) (e : Ending) (w' : World) : Prop := ∃ A c, e = .returned (.tuple #[.slice A xs.length c, .bool b]) ∧ OwI w' w.heap.size A xs.length c xs ∧ Ext w w'
theorem RetIB.mk {w w' : World} {xs : List Int} {b b' : Bool} {e : Ending} {A : Option Addr} {n c : Nat} (he : e = .returned (.tuple #[.slice A n c, .bool b'])) (hb : b' = b) (ho : OwI w' w.heap.size A n c xs) (hE : Ext w w') : RetIB w xs b e w' := by
  have hl := ho.len
  subst hl
  subst hb
  exact ⟨A, c, he, ho, hE⟩

end Go.Proofs.Ytbaljgdepicigaa
