/-
  Contracts of the functions that tell and draw distances on a line.
-/
import Derived.Deep.RegionLaw
import Derived.Deep.DeepCutAuto
import Derived.Test.YtbaljgdepicigaaBase
import Derived.Test.YtbaljgdepicigaaMathA
import Derived.Test.YtbaljgdepicigaaMathD
import Derived.Test.YtbaljgdepicigaaLib
import Derived.Test.YtbaljgdepicigaaAid
import Derived.Test.YtbaljgdepicigaaStep
import Derived.Test.YtbaljgdepicigaaGrid
import Derived.Test.YtbaljgdepicigaaLibF
import Derived.Test.YtbaljgdepicigaaMathB
import Derived.Test.YtbaljgdepicigaaMathU
import Derived.Test.YtbaljgdepicigaaMathW
import Derived.Test.YtbaljgdepicigaaMathT
import Derived.Test.YtbaljgdepicigaaMathM
import Derived.Test.YtbaljgdepicigaaMathTr
import Derived.Test.YtbaljgdepicigaaMathTp
import Derived.Test.YtbaljgdepicigaaDist
import Derived.Test.YtbaljgdepicigaaCurA
import Derived.Test.YtbaljgdepicigaaDrwA
import Derived.Test.YtbaljgdepicigaaDrwB
import Derived.Test.YtbaljgdepicigaaTrvB
import Derived.Test.YtbaljgdepicigaaTrvA
namespace Go.Proofs.Ytbaljgdepicigaa
open Go.RowKit
set_option linter.unusedVariables false
set_option maxRecDepth 100000

-- words of lines
def rowL (l : List Int) (x : Int) : List Int := l.map fun y => max (x - y) (y - x)
theorem lineFar_rows (l : List Int) : lineFar l = l.map (rowL l) := rfl
theorem rowL_len (l : List Int) (x : Int) : (rowL l x).length = l.length := by simp [rowL]
theorem rowL_snoc {l : List Int} {j : Nat} {y : Int} (x : Int) (h : l[j]? = some y) : rowL (l.take (j + 1)) x = rowL (l.take j) x ++ [max (x - y) (y - x)] := by
  rw [take_snoc_of h]; simp [rowL]
theorem rows_snoc {l : List Int} {k : Nat} {x : Int} (h : l[k]? = some x) : (l.take (k + 1)).map (rowL l) = (l.take k).map (rowL l) ++ [rowL l x] := by
  rw [take_snoc_of h]; simp
/-- The rows while they grow: row k up to column j. -/
def midL (l : List Int) (k j : Nat) : List (List Int) := (List.range l.length).map fun s => if s < k then rowL l (l.getD s 0) else if s = k then rowL (l.take j) (l.getD k 0) else []
theorem midL_len (l : List Int) (k j : Nat) : (midL l k j).length = l.length := by simp [midL]
theorem midL_get (l : List Int) {k : Nat} (j : Nat) (hk : k < l.length) : (midL l k j)[k]? = some (rowL (l.take j) (l.getD k 0)) := by simp [midL, hk]
theorem midL_set (l : List Int) {k : Nat} (j : Nat) (hk : k < l.length) : (midL l k j).set k (rowL (l.take (j + 1)) (l.getD k 0)) = midL l k (j + 1) := by
  apply List.ext_getElem?
  intro i
  rw [List.getElem?_set, midL_len]
  by_cases e : k = i
  · subst e; rw [if_pos rfl, if_pos hk, midL_get _ _ hk]
  · have e' : ¬ i = k := fun h => e h.symm
    rw [if_neg e]
    by_cases hi : i < l.length
    · simp [midL, hi, e']
    · simp [midL, hi]
theorem midL_next (l : List Int) (k : Nat) : midL l k l.length = midL l (k + 1) 0 := by
  unfold midL
  refine List.map_congr_left fun s hs => ?_
  by_cases h1 : s < k
  · rw [if_pos h1, if_pos (by omega)]
  · rw [if_neg h1]
    by_cases h2 : s = k
    · rw [if_pos h2, if_pos (by omega), List.take_length, h2]
    · rw [if_neg h2, if_neg (by omega)]
      split <;> simp [rowL]
theorem midL_end (l : List Int) : midL l l.length 0 = lineFar l := by
  unfold midL lineFar
  refine List.ext_getElem? fun i => ?_
  rw [List.getElem?_map, List.getElem?_map]
  by_cases hi : i < l.length
  · rw [List.getElem?_range hi, List.getElem?_eq_getElem hi]
    simp [hi, rowL]
  · rw [List.getElem?_eq_none (by simpa using hi), List.getElem?_eq_none (by simpa using hi)]; rfl
-- spec.LineDistances
set_option maxHeartbeats 1000000 in
theorem sLine_any (A : Option Addr) (n c : Nat) (l : List Int) (w : World) (h : Ints w A n c l) (hc : clubs (n : Int)) (hb : ∀ x ∈ l, 0 ≤ x ∧ x ≤ 1000) :
    Calls Try.prog 121 #[.slice A n c] w (RetG w (lineFar l)) := by
  have HL := hide h.len
  have HI := hide h
  have HB := hide hb
  have hle := h.le
  have hmx := h.max
  have hn10 : n ≤ 10 := by have := hc.1; omega
  have CS := hide (l16Size_any (n : Int) w)
  rw [decide_eq_true hc] at CS
  have HG0 := hide (grid_lit0 w)
  have HE0 := hide (Ext.one w (.cells #[] 23))
  clear h hb hc
  go_enter Try.func121, Try.ntmps121
  go_wp2_with fail
  refine CS.out.mono ?_
  rintro e w1 ⟨rfl, rfl⟩
  go_wp2
  go_loopw [3, 16] (fun o i wr => ∃ (k co : Nat) (Ao : Option Addr), k ≤ n ∧ i = .int .i64 (k : Int) ∧ o = .slice Ao k co ∧ Hid (OwG wr w.heap.size wr.heap.size Ao k co ((l.take k).map (rowL l))) ∧ Hid (Ext w wr)) (fun _ i _ => n - (intOf i).toNat)
  case atStart => exact ⟨0, _, _, Nat.zero_le _, rfl, rfl, HG0, HE0⟩
  case round =>
    obtain ⟨k, co, Ao, hk, rfl, rfl, HG, HER⟩ := hrel
    obtain ⟨wb, rfl⟩ : ∃ wb : World, wb = wr := ⟨_, rfl⟩
    by_cases hlt : k < n
    · have hki : (k : Int) < (n : Int) := by omega
      obtain ⟨b, off, x, rfl, hbl, hx, wx, hcx⟩ := (HI.out.ext HER.out).get hlt
      have hxb := HB.out x (List.mem_of_getElem? hx)
      have HD := hide (show decide (0 ≤ x ∧ x ≤ 1000) = true from decide_eq_true hxb)
      have HS := hide (rows_snoc hx)
      have HO0 := hide (ints_lit0 wb (Nat.le_refl _))
      have HE1 := hide (Ext.one wb (.cells #[] 3))
      have hsz := HER.out.size
      clear hx hbl
      go_wp2_with (go_at_call 146; refine (l01In_any _ _ _ _).mono ?_; rw [HD.out]; rintro e w' ⟨rfl, rfl⟩)
      go_loopw [6, 26] (fun o i wr => ∃ (j cj : Nat) (Aj : Option Addr), j ≤ n ∧ i = .int .i64 (j : Int) ∧ o = .slice Aj j cj ∧ Hid (OwI wr wb.heap.size Aj j cj (rowL (l.take j) x)) ∧ Hid (Ext wb wr)) (fun _ i _ => n - (intOf i).toNat)
      case atStart => exact ⟨0, _, _, Nat.zero_le _, rfl, rfl, HO0, HE1⟩
      case round =>
        obtain ⟨j, cj, Aj, hj, rfl, rfl, HO, HE⟩ := hrel
        by_cases hjl : j < n
        · have hji : (j : Int) < (n : Int) := by omega
          obtain ⟨b2, o2, y, e9, hb2, hx2, wx2, hcy⟩ := (HI.out.ext (HER.out.trans HE.out)).get hjl
          cases e9
          have hyb := HB.out y (List.mem_of_getElem? hx2)
          have HN := hide (rowL_snoc x hx2)
          have hw1 : IntKind.i64.wrap (x - y) = x - y := by rw [IntKind.wrap_i64]; omega
          have hw2 : IntKind.i64.wrap (y - x) = y - x := by rw [IntKind.wrap_i64]; omega
          obtain ⟨v, hv⟩ : ∃ v, (if x - y < y - x then y - x else x - y) = v := ⟨_, rfl⟩
          have HV := hide (show max (x - y) (y - x) = v by rw [← hv]; split <;> omega)
          have hvb : 0 ≤ v ∧ v ≤ 1000 := by rw [← hv]; split <;> omega
          have hz := HE.out.size
          clear hx2
          go_wp2_with (at_builtin; refine push_ints (base := wb.heap.size) rfl (.tmp 30) (.tmp 38) rfl rfl (HO.out.ext (Ext.one _ _)) (some ⟨_, 0, none⟩) 1 1 [v] rfl (ints_lit1 _ (base := 0) v ⟨by omega, by omega⟩ (Nat.zero_le _)).ints (by omega) (by simp; omega) ?_; intro B5 d5 w5 hb5 hg5 hat5)
          go_roundw
          case rel => exact ⟨j + 1, d5, B5, by omega, by go_num, rfl, hide (by rw [HN.out, HV.out]; exact hb5), hide ((HE.out.alloc _).grown hg5 (fun k hk => (HO.out.block k hk).1))⟩
          case measure => (simp [intOf] <;> omega)
        · have hje : j = n := by omega
          subst hje
          have hji : ¬ (j : Int) < (j : Int) := by omega
          have HO2 := hide (show OwI wr wb.heap.size Aj j cj (rowL l x) by have := HO.out; rwa [List.take_of_length_le (by rw [HL.out]; exact Nat.le_refl _)] at this)
          go_wp2_with (at_builtin; refine push_row (w0 := wb) (lo := w.heap.size) rfl (.tmp 41) (.tmp 43) rfl rfl HG.out (HE.out.alloc _) (HO2.out.ext (Ext.one _ _)) wr.heap.size rfl (by simp) (by omega) hsz ?_; intro A5 d5 w5 hg5 hz5)
          go_roundw
          case rel => exact ⟨k + 1, d5, A5, by omega, by go_num, rfl, hide (by rw [HS.out]; exact hg5), hide (hz5 w (HER.out.trans (HE.out.alloc _)) (Nat.le_refl _))⟩
          case measure => (simp [intOf] <;> omega)
    · have hke : k = n := by omega
      subst hke
      have HG2 := hide (show OwG wb w.heap.size wb.heap.size Ao k co (lineFar l) by have := HG.out; rwa [List.take_of_length_le (by rw [HL.out]; exact Nat.le_refl _)] at this)
      go_wp2
      go_ret
      exact RetG.mk rfl HG2.out HER.out
-- spec.MakeFar
set_option maxHeartbeats 1000000 in
theorem makeFar_any (A : Option Addr) (n c : Nat) (bs : List Int) (m N : Nat) (w : World) (h : Bts w A n c bs) (hm : m ≤ 1000) (hN : clubs (N : Int)) :
    Calls Try.prog 53 #[.slice A n c, .int .i64 (m : Int), .int .i64 (N : Int)] w fun e w' => ∃ (l : List Int) (A : Option Addr) (c : Nat), l.length = N ∧ (∀ x ∈ l, 0 ≤ x ∧ x ≤ 1000) ∧ e = .returned (.slice A N c) ∧ Grid w' A N c (lineFar l) ∧ Ext w w' := by
  have C := hide (l32New_any A n c bs m w h hm)
  have hN10 := hN.1
  have HN := hide hN
  clear h hN
  go_enter Try.func53, Try.ntmps53
  go_wp2_with fail
  refine C.out.mono ?_
  rintro e w1 ⟨p, rfl, hC1⟩
  have hpl := hC1.lt
  have HO0 := hide (ints_lit0 w1 (Nat.le_refl _))
  have HC1 := hide (hC1.ext (Ext.one w1 (.cells #[] 3)))
  have hz1 : w1.heap.size ≤ (w1.alloc (.cells #[] 3)).heap.size := by simp
  clear hC1
  go_wp2
  go_loopw [8, 9] (fun o i wr => ∃ (k ck : Nat) (Ak : Option Addr) (l : List Int), k ≤ N ∧ i = .int .i64 (k : Int) ∧ o = .slice Ak k ck ∧ w1.heap.size ≤ wr.heap.size ∧ Hid (OwI wr w1.heap.size Ak k ck l) ∧ Hid (∀ x ∈ l, 0 ≤ x ∧ x ≤ 1000) ∧ Hid (Cur w wr p)) (fun _ i _ => N - (intOf i).toNat)
  case atStart => exact ⟨0, _, _, [], Nat.zero_le _, rfl, rfl, hz1, HO0, hide (by simp), HC1⟩
  case round =>
    obtain ⟨k, ck, Ak, l, hk, rfl, rfl, hzr, HO, HB, HC⟩ := hrel
    by_cases hlt : k < N
    · have hki : (k : Int) < (N : Int) := by omega
      have CB := hide (show Calls Try.prog 91 #[.pointer (some ⟨p, 0, none⟩), .int .i64 60] wr _ from l01Below_any w wr p 60 HC.out (by omega) (by omega))
      go_wp2_with fail
      refine CB.out.mono ?_
      rintro e w2 ⟨X, rfl, hX, hC2, hg2⟩
      have HC2 := hide hC2
      have HO2 := hide (HO.out.grown hg2 (.inl fun e => by have := (HO.out.block p e).1; omega))
      have hz2 := hg2.size
      clear hC2 hg2 CB
      go_wp2_with (at_builtin; refine push_ints (base := w1.heap.size) rfl (.tmp 19) (.tmp 22) rfl rfl (HO2.out.ext (Ext.one _ _)) (some ⟨_, 0, none⟩) 1 1 [(X : Int)] rfl (ints_lit1 _ (base := 0) (X : Int) ⟨by omega, by omega⟩ (Nat.zero_le _)).ints (by omega) (by simp; omega) ?_; intro B5 d5 w5 hb5 hg5 hat5)
      have HC5 := hide (show Cur w w5 p from by
        have hga := grown_trans ((Ext.one w2 (.cells #[.int .i64 (X : Int)] 3)).to_grown (Ak.map (·.block))) hg5 (.inr (.inl rfl))
        obtain ⟨A9, n9, c9, bs9, i9, hh9, hb9, hB9, hi9, hE9, hp9⟩ := HC2.out
        exact ⟨A9, n9, c9, bs9, i9, hh9, (hga.block p (Array.getElem?_eq_some_iff.1 hb9).1 (fun e => by have := (HO.out.block p e.symm).1; omega)).trans hb9, hB9, hi9, hE9.grown hga (fun q hq => by have := (HO2.out.block q hq).1; have := HC2.out.old.2; omega), hp9⟩)
      have hz5 := hg5.size
      simp only [World.size_alloc] at hz5
      go_roundw
      case rel => exact ⟨k + 1, d5, B5, l ++ [(X : Int)], by omega, by go_num, rfl, by omega, hide hb5, hide (fun x hx => by
        rcases List.mem_append.1 hx with hx | hx
        · exact HB.out x hx
        · obtain rfl : x = (X : Int) := by simpa using hx
          omega), HC5⟩
      case measure => (simp [intOf] <;> omega)
    · have hke : k = N := by omega
      subst hke
      have hki : ¬ (k : Int) < (k : Int) := by omega
      have CL := hide (sLine_any Ak k ck l wr HO.out.ints HN.out HB.out)
      have HLN := hide HO.out.len
      go_wp2_with fail
      refine CL.out.mono ?_
      rintro e w2 ⟨B, d, rfl, ho, hE⟩
      rw [lineFar_len, HLN.out] at ho ⊢
      have HG := hide ho.grid
      have HE := hide (HC.out.old.1.trans hE)
      clear ho hE
      go_wp2
      go_ret
      exact ⟨l, B, d, HLN.out, HB.out, rfl, HG.out, HE.out⟩

end Go.Proofs.Ytbaljgdepicigaa
