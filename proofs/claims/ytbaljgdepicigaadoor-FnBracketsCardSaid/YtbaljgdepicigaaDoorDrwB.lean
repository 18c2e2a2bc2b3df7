/-
  Contracts of the functions that draw tours and orders with the cursor.
-/
import Derived.Deep.RegionLaw
import Derived.Deep.RegionHeld3
import Derived.Laws.ShiftsVar
import Derived.Test.YtbaljgdepicigaaDoorBase
import Derived.Test.YtbaljgdepicigaaDoorMgA
import Derived.Test.YtbaljgdepicigaaDoorLib
import Derived.Test.YtbaljgdepicigaaDoorAid
import Derived.Test.YtbaljgdepicigaaDoorStep
import Derived.Test.YtbaljgdepicigaaDoorGrid
import Derived.Test.YtbaljgdepicigaaDoorLibF
import Derived.Test.YtbaljgdepicigaaDoorSeed
import Derived.Test.YtbaljgdepicigaaDoorTour
import Derived.Test.YtbaljgdepicigaaDoorTourB
import Derived.Test.YtbaljgdepicigaaDoorCurA
import Derived.Test.YtbaljgdepicigaaDoorDrwA
namespace Go.Proofs.YtbaljgdepicigaaDoor
open Go.RowKit
set_option linter.unusedVariables false
set_option maxRecDepth 100000

-- words
theorem Cur.lt {w0 w : World} {p : Nat} (h : Cur w0 w p) : p < w.heap.size := by obtain ⟨A, n, c, bs, i, hh, hb, _⟩ := h; exact (Array.getElem?_eq_some_iff.1 hb).1
theorem Cur.old {w0 w : World} {p : Nat} (h : Cur w0 w p) : Ext w0 w ∧ w0.heap.size ≤ p := by obtain ⟨_, _, _, _, _, _, _, _, _, hE, hp⟩ := h; exact ⟨hE, hp⟩
theorem Cur.ext {w0 w w' : World} {p : Nat} (h : Cur w0 w p) (hE : Ext w w') : Cur w0 w' p := by
  obtain ⟨A, n, c, bs, i, hh, hb, hB, hi, hE0, hp⟩ := h
  exact ⟨A, n, c, bs, i, hh, (hE.block (Array.getElem?_eq_some_iff.1 hb).1).trans hb, hB, hi, hE0.trans hE, hp⟩
theorem Cur.setCell {w0 w : World} {p : Nat} (h : Cur w0 w p) {q : Addr} (hq : q.block ≠ p) (hw : w0.heap.size ≤ q.block) (v : Value) : Cur w0 (w.setCell q v) p := by
  obtain ⟨A, n, c, bs, i, hh, hb, hB, hi, hE0, hp⟩ := h
  exact ⟨A, n, c, bs, i, hh, (Below.heap_setCell _ _ _ _ (fun e => hq e.symm)).trans hb, hB, hi, hE0.setCell hw _, hp⟩
theorem grown_new {w w' : World} {p : Nat} (h : w.grownBy w' (some p)) {q : Addr} (hq : w.heap.size ≤ q.block) (v : Value) : w.grownBy (w'.setCell q v) (some p) :=
  ⟨h.os, h.tape, h.output, Nat.le_trans h.size (by simp [World.setCell]), fun k hk hn => (Below.heap_setCell _ _ _ _ (by omega)).trans (h.block k hk hn)⟩
theorem grown_ext {a b c : World} {row : Option Nat} (h : a.grownBy b row) (hE : Ext b c) : a.grownBy c row := grown_trans h (hE.to_grown none) (.inl rfl)
theorem ext_grown {a b c : World} {p : Nat} (hE : Ext a b) (h : b.grownBy c (some p)) : a.grownBy c (some p) := grown_trans (hE.to_grown _) h (.inr (.inl rfl))
theorem OwI.stored {w : World} {k : Nat} {A : Option Addr} {n c : Nat} {xs : List Int} (h : OwI w (k + 1) A n c xs) (v1 v2 : Value) : OwI ((w.setCell ⟨k, 0, none⟩ v1).setCell ⟨k, 1, none⟩ v2) k A n c xs := by
  refine ⟨(h.mono (by omega)).ow.keep fun j hj => ?_, h.wf⟩
  have := (h.block j hj).1
  rw [Below.heap_setCell _ _ _ _ (by show j ≠ k; omega), Below.heap_setCell _ _ _ _ (by show j ≠ k; omega)]
theorem run_head_intD (A : Option Addr) (n c h : Nat) (hn : h ≤ n) (hc : n ≤ c) (r : Int) (hr : r = (h : Int)) (w : World) :
    (Instr.sliceAt 23 (.slice A n c) none (some (.int .i64 r)) none).run Tryd.prog w = .ok (.slice A h c) w := by
  subst hr
  have ht : Tryd.prog.underlying 23 = some (.slice 3) := Tryd.underlying23
  obtain ⟨i, hi, hs⟩ := Option.map_eq_some_iff.1 size_int
  have e : Tryd.prog.elem 23 = 3 := by simp [Program.elem, ht]
  have ht' : Tryd.prog.underlying 23 = some (.slice (Tryd.prog.elem 23)) := by rw [e]; exact ht
  rw [run_sliceAt_slice w 23 _ _ _ _ ht', run_slice_h w 23 A n c ht' .i64 (h : Int) (by omega) (by omega)]
  rw [e]
  simp [sizeOf, typeInfo, hi, hs, sliced]
  intro _
  cases A with
  | none => rfl
  | some a => simp [Addr.add]
-- spec.l02Order
set_option maxHeartbeats 1000000 in
theorem l02Order_any (w0 w : World) (p n : Nat) (h : Cur w0 w p) (hn : n ≤ 8) :
    Calls Tryd.prog 73 #[.pointer (some ⟨p, 0, none⟩), .int .i64 (n : Int)] w fun e w' => ∃ o A c, isPerm n o ∧ e = .returned (.slice A n c) ∧ OwI w' w.heap.size A n c o ∧ Cur w0 w' p ∧ w.grownBy w' (some p) := by
  have HC := hide (h.ext (Ext.one w (.cells #[] 3)))
  have hpl := h.lt
  have HG0 := hide ((Ext.one w (.cells #[] 3)).to_grown (some p))
  have HL0 := hide (ints_lit0 w (Nat.le_refl _))
  clear h
  go_enter Tryd.func73, Tryd.ntmps73
  go_wp2
  go_loopw [5, 6] (fun l i wr => ∃ (k cl : Nat) (Al : Option Addr) (o : List Int), k ≤ n ∧ i = .int .i64 (k : Int) ∧ l = .slice Al k cl ∧ Hid (isPerm k o) ∧ Hid (OwI wr w.heap.size Al k cl o) ∧ Hid (Cur w0 wr p) ∧ Hid (w.grownBy wr (some p))) (fun _ i _ => n - (intOf i).toNat)
  case atStart => exact ⟨0, _, _, [], Nat.zero_le _, rfl, rfl, hide ⟨rfl, by simp, by simp⟩, HL0, HC, HG0⟩
  case round =>
    obtain ⟨i, cl, Al, o, hk, rfl, rfl, HP, HO, HC, HG⟩ := hrel
    by_cases hlt : i < n
    · have hki : (i : Int) < (n : Int) := by omega
      have CB := l01Below_any w0 wr p (i + 1) HC.out (by omega) (by omega)
      rw [show ((i + 1 : Nat) : Int) = (i : Int) + 1 by omega] at CB
      replace CB := hide CB
      have hle := HO.out.le
      have hmx := HO.out.max
      have hzw := HG.out.size
      have HAL := hide (show ∀ q, Al.map (·.block) = some q → q ≠ p from fun q hq => by have := (HO.out.block q hq).1; omega)
      have HNX := hide (fun k => isPerm_insert (k := k) HP.out)
      go_wp2_with fail
      refine CB.out.mono ?_
      rintro e w1 ⟨k, rfl, hkk, hC1, hg1⟩
      have hk1 : k ≤ i := by omega
      have HC1 := hide hC1
      have HG1 := hide hg1
      have HO1 := hide (HO.out.grown hg1 (.inl (fun e => HAL.out p e rfl)))
      have hz1 := hg1.size
      have HLa := hide (ints_lit0 w1 (base := w1.heap.size) (Nat.le_refl _))
      have hhd := run_head_intD Al i cl k hk1 hle (k : Int) rfl
      have htl := run_tail_int Al i cl k hk1 (k : Int) rfl
      have HHD := hide ((HO1.out.ints.take hk1).ext (Ext.one w1 (.cells #[] 3)))
      have HTL := hide (HO1.out.ints.tail hk1)
      have hkb : k + 1 ≤ 4294967296 := by omega
      have hkc : 0 + k ≤ 4294967296 := by omega
      have hkd : k + 1 + (i - k) ≤ 4294967296 := by omega
      have hke : k + 1 + (i - k) = i + 1 := by omega
      clear hC1 hg1
      go_wp2_with (first
        | (at_builtin; refine push_ints (base := w1.heap.size) rfl (.tmp 19) (.tmp 22) rfl rfl HLa.out Al k cl _ rfl HHD.out hkc (by simp) ?_; intro A2 c2 w2 hb2 hg2 hat2; rw [Nat.zero_add, List.nil_append] at hb2; have HB2 := hide hb2; have HX2 := hide ((Ext.one w1 (.cells #[] 3)).grown hg2 (fun q hq => by cases hq; exact Nat.le_refl _)); have HLI := hide (ints_lit1 w2 (base := 0) (i : Int) ⟨by omega, by omega⟩ (Nat.zero_le _)).ints; clear hb2 hg2 hat2)
        | (at_builtin; refine push_ints (base := w1.heap.size) rfl (.tmp 24) (.tmp 26) rfl rfl (HB2.out.ext (Ext.one w2 _)) (some ⟨w2.heap.size, 0, none⟩) 1 1 [(i : Int)] rfl HLI.out hkb (by have := HX2.out.size; simp; omega) ?_; intro A3 c3 w3 hb3 hg3 hat3; have HB3 := hide hb3; have HX3 := hide ((HX2.out.trans (Ext.one w2 (.cells #[.int .i64 (i : Int)] 3))).grown hg3 (fun q hq => (HB2.out.block q hq).1)); clear hb3 hg3 hat3)
        | (at_builtin; refine push_ints (base := w1.heap.size) rfl (.tmp 28) (.tmp 31) rfl rfl HB3.out (tailA Al cl k) (i - k) (cl - k) _ rfl (HTL.out.ext HX3.out) hkd HX3.out.size ?_; intro A4 c4 w4 hb4 hg4 hat4; rw [hke] at hb4; have HB4 := hide hb4; have HX4 := hide (HX3.out.grown hg4 (fun q hq => (HB3.out.block q hq).1)); clear hb4 hg4 hat4)
        | fail)
      go_roundw
      case rel => exact ⟨i + 1, c4, A4, o.take k ++ [(i : Int)] ++ o.drop k, by omega, by go_num, by first | rfl | rw [hke], hide (HNX.out k), hide (HB4.out.mono (by omega)), hide (HC1.out.ext HX4.out), hide (grown_ext (grown_trans HG.out HG1.out (.inr (.inl rfl))) HX4.out)⟩
      case measure => (simp [intOf] <;> omega)
    · have hke : i = n := by omega
      subst hke
      go_wp2
      go_ret
      exact ⟨o, Al, cl, HP.out, rfl, HO.out, HC.out, HG.out⟩
-- spec.l02Draw
set_option maxHeartbeats 1000000 in
theorem l02Draw_any (w0 w : World) (p most : Nat) (h : Cur w0 w p) (h1 : 1 ≤ most) (h8 : most ≤ 8) :
    Calls Tryd.prog 89 #[.pointer (some ⟨p, 0, none⟩), .int .i64 (most : Int)] w fun e w' => ∃ n xs A c, (1 ≤ n ∧ n ≤ most) ∧ tourOk (n : Int) xs ∧ e = .returned (.agg #[.int .i64 (n : Int), .slice A n c]) ∧ OwI w' w.heap.size A n c xs ∧ Cur w0 w' p ∧ w.grownBy w' (some p) := by
  have hpl := h.lt
  have hold := h.old
  obtain ⟨W, hW⟩ : ∃ W : World, W = w.alloc (.cells #[.int .i64 0, .slice none 0 0] 26) := ⟨_, rfl⟩
  have HE := hide (show Ext w W by rw [hW]; exact Ext.one _ _)
  have hzW : W.heap.size = w.heap.size + 1 := by rw [hW]; simp
  have HB := hide (show W.heap[w.heap.size]? = some (.cells #[.int .i64 0, .slice none 0 0] 26 (0, 0)) by rw [hW]; exact heap_new w _)
  have HC := hide (h.ext HE.out)
  have HW := hide hW
  clear h hW
  go_enter Tryd.func89, Tryd.ntmps89
  go_wp2_with fail
  rw [← HW.out]
  refine (l01Below_any _ _ _ most HC.out h1 (by omega)).mono ?_
  rintro e w1 ⟨X, rfl, hX, hC1, hg1⟩
  have HC1 := hide hC1
  have HG1 := hide hg1
  have h1x : (1 : Int) + (X : Int) = ((X + 1 : Nat) : Int) := by omega
  clear hC1 hg1
  have CB1 := hide (show Calls Tryd.prog 40 #[.pointer (some ⟨p, 0, none⟩), .int .i64 256] w1 _ from l01Below_any w0 w1 p 256 HC1.out (by omega) (by omega))
  go_wp2_with fail
  refine CB1.out.mono ?_
  rintro e w2 ⟨x2, rfl, hx2, hC2, hg2⟩
  have HC2 := hide hC2
  have HG2 := hide (grown_trans HG1.out hg2 (.inr (.inl rfl)))
  clear hC2 hg2 CB1
  have CB2 := hide (show Calls Tryd.prog 40 #[.pointer (some ⟨p, 0, none⟩), .int .i64 256] w2 _ from l01Below_any w0 w2 p 256 HC2.out (by omega) (by omega))
  go_wp2_with fail
  refine CB2.out.mono ?_
  rintro e w3 ⟨x3, rfl, hx3, hC3, hg3⟩
  have HC3 := hide hC3
  have HG3 := hide (grown_trans HG2.out hg3 (.inr (.inl rfl)))
  clear hC3 hg3 CB2
  have CB3 := hide (show Calls Tryd.prog 40 #[.pointer (some ⟨p, 0, none⟩), .int .i64 256] w3 _ from l01Below_any w0 w3 p 256 HC3.out (by omega) (by omega))
  go_wp2_with fail
  refine CB3.out.mono ?_
  rintro e w4 ⟨x4, rfl, hx4, hC4, hg4⟩
  have HC4 := hide hC4
  have HG4 := hide (grown_trans HG3.out hg4 (.inr (.inl rfl)))
  clear hC4 hg4 CB3
  have CB4 := hide (show Calls Tryd.prog 40 #[.pointer (some ⟨p, 0, none⟩), .int .i64 16] w4 _ from l01Below_any w0 w4 p 16 HC4.out (by omega) (by omega))
  go_wp2_with fail
  refine CB4.out.mono ?_
  rintro e w5 ⟨x5, rfl, hx5, hC5, hg5⟩
  have HC5 := hide hC5
  have HG5 := hide (grown_trans HG4.out hg5 (.inr (.inl rfl)))
  clear hC5 hg5 CB4
  go_wp2_with fail
  refine (l02OfV_any (X + 1) _ _ (by omega) (by omega) (by omega)).mono ?_
  rintro e w6 ⟨xs, A, c, ht, rfl, ho, hE6⟩
  have HT := hide ht
  have HO := hide ho
  have HE6 := hide hE6
  clear ht ho hE6
  have hz5 := HG5.out.size
  have HG6 := hide (grown_ext HG5.out HE6.out)
  have hb6 := (HG6.out.block w.heap.size (by rw [hzW]; omega) (fun e => by have := Option.some.inj e; omega)).trans HB.out
  obtain ⟨c00, c01, f00, f01, s0⟩ := two_cells (Ext.refl w6) hb6
  clear hb6
  go_wp2
  refine bodyPost_ret (v := .agg #[.int .i64 ((X + 1 : Nat) : Int), .slice A (X + 1) c]) (by simp [results, Tryd.results89, go_sem, c00, c01]) rfl ⟨X + 1, xs, A, c, ⟨by omega, by omega⟩, HT.out, rfl, ?_, ?_, ?_⟩
  · exact (HO.out.mono (by omega)).stored _ _
  · exact ((HC5.out.ext HE6.out).setCell (q := ⟨w.heap.size, 0, none⟩) (by show w.heap.size ≠ p; omega) hold.1.size _).setCell (q := ⟨w.heap.size, 1, none⟩) (by show w.heap.size ≠ p; omega) hold.1.size _
  · exact grown_new (grown_new (ext_grown HE.out HG6.out) (q := ⟨w.heap.size, 0, none⟩) (Nat.le_refl _) _) (q := ⟨w.heap.size, 1, none⟩) (Nat.le_refl _) _
-- spec.MakeNum
theorem makeNum_any (A : Option Addr) (n c : Nat) (bs : List Int) (m : Nat) (w : World) (h : Bts w A n c bs) (hm : m ≤ 1000) :
    Calls Tryd.prog 5 #[.slice A n c, .int .i64 (m : Int)] w fun e w' => ∃ X : Nat, e = .returned (.int .i64 (X : Int)) ∧ X < 65536 ∧ Ext w w' := by
  have C := hide (l32New_any A n c bs m w h hm)
  clear h
  go_enter Tryd.func5, Tryd.ntmps5
  go_wp2_with (first
    | (go_at_call 37; refine C.out.mono ?_; rintro e w1 ⟨p, rfl, hC1⟩; have HC1 := hide hC1; clear hC1)
    | (go_at_call 38; refine (l01Byte_any _ _ _ HC1.out).mono ?_; rintro e w2 ⟨x, rfl, hx, hC2, hg2⟩; have HC2 := hide hC2; clear hC2 hg2)
    | (go_at_call 38; refine (l01Byte_any _ _ _ HC2.out).mono ?_; rintro e w3 ⟨y, rfl, hy, hC3, hg3⟩; have HC3 := hide hC3; clear hC3 hg3)
    | fail)
  go_ret
  exact ⟨x * 256 + y, ret_int (by simp), by omega, HC3.out.old.1⟩
-- spec.MakeOrder
theorem makeOrder_any (A : Option Addr) (n c : Nat) (bs : List Int) (m size : Nat) (w : World) (h : Bts w A n c bs) (hm : m ≤ 1000) (h1 : 1 ≤ size) (h8 : size ≤ 8) :
    Calls Tryd.prog 30 #[.slice A n c, .int .i64 (m : Int), .int .i64 (size : Int)] w fun e w' => ∃ o B d, isPerm size o ∧ e = .returned (.slice B size d) ∧ OwI w' w.heap.size B size d o ∧ Ext w w' := by
  have C := hide (l32New_any A n c bs m w h hm)
  clear h
  by_cases hs : size = 1
  · subst hs
    go_enter Tryd.func30, Tryd.ntmps30
    go_wp2_with fail
    refine C.out.mono ?_
    rintro e w1 ⟨p, rfl, hC1⟩
    have HC1 := hide hC1
    clear hC1
    have CO := hide (show Calls Tryd.prog 73 #[.pointer (some ⟨p, 0, none⟩), .int .i64 1] w1 _ from l02Order_any w w1 p 1 HC1.out h8)
    go_wp2_with fail
    refine CO.out.mono ?_
    rintro e w2 ⟨o, B, d, hp, rfl, ho, hC2, hg2⟩
    have HP := hide hp
    have HO := hide ho
    have HC2 := hide hC2
    clear hp ho hC2 hg2
    go_wp2
    go_ret
    exact ⟨o, B, d, HP.out, rfl, HO.out.mono (HC1.out.old.1.size), HC2.out.old.1⟩
  · have e1 : min (size : Int) 8 = (size : Int) := by omega
    have e2 : ¬ (size : Int) ≤ 1 := by omega
    go_enter Tryd.func30, Tryd.ntmps30
    go_wp2_with fail
    refine C.out.mono ?_
    rintro e w1 ⟨p, rfl, hC1⟩
    have HC1 := hide hC1
    clear hC1
    have CO := hide (l02Order_any w w1 p size HC1.out h8)
    go_wp2_with fail
    refine CO.out.mono ?_
    rintro e w2 ⟨o, B, d, hp, rfl, ho, hC2, hg2⟩
    have HP := hide hp
    have HO := hide ho
    have HC2 := hide hC2
    clear hp ho hC2 hg2
    go_wp2
    go_ret
    exact ⟨o, B, d, HP.out, rfl, HO.out.mono (HC1.out.old.1.size), HC2.out.old.1⟩

end Go.Proofs.YtbaljgdepicigaaDoor
