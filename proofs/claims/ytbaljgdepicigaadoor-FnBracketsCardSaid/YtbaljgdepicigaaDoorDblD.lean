/-
  Contracts of slices.Grow (of nil), slices.Concat and slices.Reverse, on ints.
-/
import Derived.Laws.ShiftsVar
import Derived.Lib.AppendZerosOnto
import Derived.Great.Walk
import Derived.Test.YtbaljgdepicigaaDoorBase
import Derived.Test.YtbaljgdepicigaaDoorMgA
import Derived.Test.YtbaljgdepicigaaDoorLib
import Derived.Test.YtbaljgdepicigaaDoorAid
import Derived.Test.YtbaljgdepicigaaDoorStep
import Derived.Test.YtbaljgdepicigaaDoorGrid
namespace Go.Proofs.YtbaljgdepicigaaDoor
open Go.RowKit
set_option linter.unusedVariables false

-- Grow
theorem GrowNil_any (m : Nat) (w : World) (hm : m ≤ 65536) :
    Calls Tryd.prog 103 #[.slice none 0 0, .int .i64 (m : Int)] w fun e w' => ∃ A c, e = .returned (.slice A 0 c) ∧ OwI w' w.heap.size A 0 c [] ∧ Ext w w' := by
  by_cases h0 : m = 0
  · subst h0
    go_enter Tryd.func103, Tryd.ntmps103
    go_wp2
    go_ret
    exact ⟨none, 0, rfl, OwI.nil _ _, Ext.refl _⟩
  · have hm0 : (0 : Int) < (m : Int) := by omega
    go_enter Tryd.func103, Tryd.ntmps103
    obtain ⟨i0, hi0, hz0, hz1, hz2⟩ := info_parts info_int
    have hcap := grownCap_ge w m 0 3
    have hcm := grownCap_le_maxLen w m 0 3 (by unfold maxLen; omega)
    unfold maxLen at hcm
    have hr := fun ty => Go.Lib.run_append_nil_zeros (P := Tryd.prog) w 23 3 ty 3 i0 _ .i64 .i64 Tryd.underlying23 Tryd.underlying3 hi0 hz0 m (by omega) (by rw [hz1]; omega) (by omega) (by rw [hz2]; omega)
    have hsz : (Builtin.zeroCells (Value.int .i64 0).cells m ++ Builtin.zeroCells (Value.int .i64 0).cells (grownCap w m 0 3 - m)).size = grownCap w m 0 3 := by
      simp [Builtin.zeroCells, Value.cells]; omega
    generalize Builtin.zeroCells (Value.int .i64 0).cells m ++ Builtin.zeroCells (Value.int .i64 0).cells (grownCap w m 0 3 - m) = Z at *
    generalize grownCap w m 0 3 = cap at *
    clear hi0 hz0 hz1 hz2
    go_wp2_with (at_builtin; go_loud (refine Go.Lib.wpList_append_run _ rfl (.tmp 20) (.tmp 21) _ _ rfl _ _ rfl rfl _ _ (hr _) ?_))
    go_ret
    refine ⟨some ⟨w.heap.size, 0, none⟩, cap, rfl, ⟨⟨rfl, Nat.zero_le _, by omega, .inr ⟨w.heap.size, 0, Z, rfl, Nat.le_refl _, heap_alloc_new w _, by omega, fun k v hk => by simp at hk⟩⟩, by simp⟩, (Ext.refl w).drew.alloc _⟩
-- Concat
theorem flat_take {rows : List (List Int)} {k : Nat} {r : List Int} (h : rows[k]? = some r) : (rows.take (k + 1)).flatten = (rows.take k).flatten ++ r := by
  rw [take_snoc_of h]; simp
theorem flat_len (rows : List (List Int)) : rows.flatten.length = tot rows := by
  induction rows with
  | nil => rfl
  | cons r rs ih => simp [tot, ih]
theorem Concat_any (A : Option Addr) (n c : Nat) (rows : List (List Int)) (w : World) (h : Grid w A n c rows) (hb : tot rows ≤ 65536) :
    Calls Tryd.prog 85 #[.slice A n c] w (RetI w rows.flatten) := by
  have HI := hide h
  have HL := hide h.len
  have hle := h.le
  have hmx := h.max
  have HTL := hide (tot_take_le rows)
  clear h
  go_enter Tryd.func85, Tryd.ntmps85
  go_wp2
  go_loopw [3, 11] (fun z i wr => ∃ k : Nat, k ≤ n ∧ i = .int .i64 (k : Int) ∧ z = .int .i64 (tot (rows.take k) : Int) ∧ w = wr) (fun _ i _ => n - (intOf i).toNat)
  case atStart => exact ⟨0, Nat.zero_le _, rfl, by simp [tot], rfl⟩
  case round =>
    obtain ⟨k, hk, rfl, rfl, rfl⟩ := hrel
    have ht0 := HTL.out k
    by_cases hlt : k < n
    · obtain ⟨b, off, B, d, r, rfl, hb1, hx, hc, hir⟩ := HI.out.get hlt
      have HTS := hide (tot_snoc hx)
      have ht1 := HTL.out (k + 1)
      rw [HTS.out] at ht1
      clear hx hir
      generalize tot (rows.take k) = T at *
      have hTi : (0 : Int) ≤ (T : Int) + (r.length : Int) := by omega
      go_wp2
      go_roundw
      case rel => exact ⟨k + 1, by omega, by go_num, by rw [HTS.out]; go_num, by trivial⟩
      case measure => (simp [intOf] <;> omega)
    · have hke : k = n := by omega
      subst hke
      have HT := hide (show tot rows = tot (rows.take k) by rw [take_len HL.out])
      generalize tot (rows.take k) = T at *
      have hT : T ≤ 65536 := by have := HT.out; omega
      go_wp2_with (go_at_call 103; refine (GrowNil_any T _ hT).mono ?_; rintro e w1 ⟨B1, d1, rfl, hoB, hE1⟩)
      have HOB := hide hoB
      have HE1 := hide hE1
      clear hoB hE1
      go_loopw [6, 27] (fun z i wr => ∃ (q m c1 : Nat) (A1 : Option Addr), q ≤ k ∧ i = .int .i64 (q : Int) ∧ z = .slice A1 m c1 ∧ Hid (OwI wr w.heap.size A1 m c1 (rows.take q).flatten) ∧ Ext w wr) (fun _ i _ => k - (intOf i).toNat)
      case atStart => exact ⟨0, 0, d1, B1, Nat.zero_le _, rfl, rfl, hide (by simpa using HOB.out), HE1.out⟩
      case round =>
        obtain ⟨q, m, c1, A1, hq, rfl, rfl, HO, hE⟩ := hrel
        have HE := hide hE
        clear hE
        have hml := HO.out.len
        have htq := HTL.out q
        rw [flat_len] at hml
        have hm : m ≤ 65536 := by omega
        by_cases hlt2 : q < k
        · obtain ⟨b, off, B, d, r, rfl, hb1, hx, hc, hir⟩ := (HI.out.ext HE.out).get hlt2
          have HX := hide (flat_take hx)
          have HIR := hide hir
          have hrt := row_le_tot hx
          have hrl : r.length ≤ 65536 := by omega
          clear hx hir hml
          go_wp2_with (at_builtin; refine push_ints rfl (.tmp 31) (.tmp 32) rfl rfl HO.out B r.length d r rfl HIR.out (by omega) HE.out.size ?_; intro B2 d2 w3 hb3 hg3 hat3)
          have HB3 := hide hb3
          have HE3 := hide (HE.out.grown hg3 (fun z hz => (HO.out.block z hz).1))
          clear hb3 hg3 hat3
          go_roundw
          case rel => exact ⟨q + 1, m + r.length, d2, B2, by omega, by go_num, rfl, hide (by rw [HX.out]; exact HB3.out), HE3.out⟩
          case measure => (simp [intOf] <;> omega)
        · have hqe : q = k := by omega
          subst hqe
          have HO2 := hide HO.out
          rw [take_len HL.out] at HO2
          clear HO
          go_wp2
          go_ret
          exact RetI.mk rfl HO2.out HE.out
theorem Concat_eq (A : Option Addr) (n c : Nat) (rows : List (List Int)) (F : List Int) (w : World) (hF : F = rows.flatten) (h : Grid w A n c rows) (hb : tot rows ≤ 65536) :
    Calls Tryd.prog 85 #[.slice A n c] w (RetI w F) := by
  subst hF; exact Concat_any A n c rows w h hb
-- Reverse
def revAt (xs ys : List Int) (a : Nat) : Prop := ys.length = xs.length ∧ ∀ k, k < xs.length → ys[k]? = if k < a ∨ xs.length - a ≤ k then xs[xs.length - 1 - k]? else xs[k]?
theorem revAt_end {xs ys : List Int} {a : Nat} (h : revAt xs ys a) (h1 : 2 * a ≤ xs.length) (h2 : xs.length ≤ 2 * a + 1) : ys = xs.reverse := by
  apply List.ext_getElem?
  intro k
  by_cases hk : k < xs.length
  · rw [h.2 k hk, List.getElem?_reverse hk]
    split
    · rfl
    · rw [show xs.length - 1 - k = k by omega]
  · rw [List.getElem?_eq_none (by rw [h.1]; omega), List.getElem?_eq_none (by simp; omega)]
theorem revAt_step {xs ys : List Int} {a j : Nat} {x y : Int} (h : revAt xs ys a) (hj : j + a + 1 = xs.length) (haj : a < j) (hx : ys[a]? = some x) (hy : ys[j]? = some y) : revAt xs ((ys.set a y).set j x) (a + 1) := by
  refine ⟨by simp [h.1], fun k hk => ?_⟩
  have hax := h.2 a (by omega)
  have hjx := h.2 j (by omega)
  rw [if_neg (by omega), hx] at hax
  rw [if_neg (by omega), hy] at hjx
  rw [List.getElem?_set]
  by_cases e1 : j = k
  · subst e1
    rw [if_pos rfl, if_pos (by simp; rw [h.1]; omega), if_pos (by omega), show xs.length - 1 - j = a by omega, hax]
  · rw [if_neg e1, List.getElem?_set]
    by_cases e2 : a = k
    · subst e2
      rw [if_pos rfl, if_pos (by rw [h.1]; omega), if_pos (by omega), show xs.length - 1 - a = j by omega, hjx]
    · rw [if_neg e2, h.2 k hk]
      by_cases e3 : k < a ∨ xs.length - a ≤ k
      · rw [if_pos e3, if_pos (by omega)]
      · rw [if_neg e3, if_neg (by omega)]
theorem grownBy_setC (W : World) (b o : Nat) (v : Value) : W.grownBy (W.setCell ⟨b, o, none⟩ v) (some b) :=
  ⟨rfl, rfl, rfl, by simp [World.setCell], fun k _ hk => Below.heap_setCell _ _ _ k (fun e => hk (by rw [e]))⟩
theorem grownBy_drew (W : World) (row : Option Nat) : W.grownBy W.drew row := ⟨rfl, rfl, rfl, Nat.le_refl _, fun _ _ _ => rfl⟩
theorem Reverse_any {base : Nat} (A : Option Addr) (n c : Nat) (xs : List Int) (w : World) (h : OwI w base A n c xs) (hn : n ≤ 65536) :
    Calls Tryd.prog 101 #[.slice A n c] w fun e w' => e = .returned (.tuple #[]) ∧ OwI w' base A n c xs.reverse ∧ w.grownBy w' (A.map (·.block)) := by
  have HL := hide h.len
  have H0 := hide h
  have hR0 : revAt xs xs 0 := ⟨rfl, fun k hk => by rw [if_neg (by omega)]⟩
  have HR0 := hide hR0
  clear h hR0
  go_enter Tryd.func101, Tryd.ntmps101
  go_wp2
  go_loopw [2, 3] (fun i j wr => ∃ (a : Nat) (jj : Int) (ys : List Int), 2 * a ≤ n ∧ jj = (n : Int) - 1 - a ∧ i = .int .i64 (a : Int) ∧ j = .int .i64 jj ∧ Hid (OwI wr base A n c ys ∧ revAt xs ys a) ∧ w.grownBy wr (A.map (·.block))) (fun i _ _ => n - (intOf i).toNat)
  case atStart => exact ⟨0, (n : Int) - 1, xs, by omega, by omega, rfl, by first | rfl | go_num, hide ⟨H0.out, HR0.out⟩, World.grownBy.refl _ _⟩
  case round =>
    obtain ⟨a, jj, ys, ha, hj, rfl, rfl, HY, hg⟩ := hrel
    by_cases hlt : (a : Int) < jj
    · obtain ⟨j, rfl⟩ : ∃ j : Nat, jj = (j : Int) := ⟨jj.toNat, by omega⟩
      obtain ⟨b, off, x, rfl, hb1, hb2, hx, wx, hcx, hfx⟩ := HY.out.1.get (k := a) (by omega)
      obtain ⟨b', off', y, e', hb1', hb2', hy, wy, hcy, hfy⟩ := HY.out.1.get (k := j) (by omega)
      cases e'
      have HST := hide (revAt_step HY.out.2 (a := a) (j := j) (by have := HL.out; omega) (by omega) hx hy)
      have HO1 := hide ((HY.out.1.store rfl (k := a) (by omega) wy).store rfl (k := j) (by omega) wx)
      have hai : (a : Int) < (n : Int) := by omega
      have hji : (j : Int) < (n : Int) := by omega
      have han : a < n := by omega
      have hjn : j < n := by omega
      have hne : ¬ off + a = off + j := by omega
      have hne2 : ¬ off + j = off + a := by omega
      have haj : ¬ a = j := by omega
      have hja : ¬ j = a := by omega
      have HJ := hide hj
      clear hx hy hj
      go_wp2
      go_region
      have HG := hide ((((hg.trans (grownBy_setC wr b (off + a) (.int .i64 y))).trans (grownBy_setC _ b (off + j) (.int .i64 x)))).trans (grownBy_drew _ (some b)))
      have HO2 := hide (HO1.out.ext (Ext.refl _).drew)
      clear HO1
      go_wp2
      go_roundw
      case rel => exact ⟨a + 1, (j : Int) - 1, _, by have := HJ.out; omega, by have := HJ.out; omega, by go_num, by go_num, hide ⟨HO2.out, HST.out⟩, HG.out⟩
      case measure => (simp [intOf] <;> omega)
    · have hE := HY.out
      have HV := hide (revAt_end hE.2 (by have := HL.out; omega) (by have := HL.out; omega))
      clear hE
      go_wp2
      exact Go.Great.bodyPost_end0 rfl rfl ⟨rfl, by rw [← HV.out]; exact HY.out.1, hg⟩

end Go.Proofs.YtbaljgdepicigaaDoor
