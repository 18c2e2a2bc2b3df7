/-
  Contracts of the cursor over bytes from which arguments are drawn: only bounds are told.
-/
import Derived.Laws.ShiftsVar
import Derived.Deep.QuietTactic
import Derived.Test.YtbaljgdepicigaaDoorBase
import Derived.Test.YtbaljgdepicigaaDoorMgA
import Derived.Test.YtbaljgdepicigaaDoorLib
import Derived.Test.YtbaljgdepicigaaDoorAid
import Derived.Test.YtbaljgdepicigaaDoorStep
import Derived.Test.YtbaljgdepicigaaDoorGrid
namespace Go.Proofs.YtbaljgdepicigaaDoor
open Go.RowKit
set_option linter.unusedVariables false

-- words of the cursor
theorem and_255 (a : Int) : ∃ X : Nat, bits .and .i64 a 255 = (X : Int) ∧ X < 256 := by
  have h2 : (BitVec.ofInt 64 (255 : Int)).toNat = 255 := by decide
  have h3 : (BitVec.ofInt 64 a &&& BitVec.ofInt 64 (255 : Int)).toNat ≤ 255 := by
    rw [BitVec.toNat_and, h2]; exact Nat.and_le_right
  refine ⟨(BitVec.ofInt 64 a &&& BitVec.ofInt 64 (255 : Int)).toNat, ?_, by omega⟩
  show IntKind.i64.wrap ((BitVec.ofInt 64 a &&& BitVec.ofInt 64 (255 : Int)).toNat : Int) = _
  generalize (BitVec.ofInt 64 a &&& BitVec.ofInt 64 (255 : Int)).toNat = z at *
  rw [IntKind.wrap_i64]
  omega
/-- A slice of bytes that is read. -/
structure Bts (w : World) (A : Option Addr) (n c : Nat) (bs : List Int) : Prop where
  rd : Rd w A n c (bs.map (Value.int .u8))
  wf : ∀ x ∈ bs, 0 ≤ x ∧ x ≤ 255
theorem Bts.get {w : World} {A : Option Addr} {n c : Nat} {bs : List Int} (h : Bts w A n c bs) {k : Nat} (hk : k < n) : ∃ b off x, A = some ⟨b, off, none⟩ ∧ b < w.heap.size ∧ (0 ≤ x ∧ x ≤ 255) ∧ w.cell? ⟨b, off + k, none⟩ = some (.int .u8 x) := by
  obtain ⟨b, off, v, e, hb, hv, hc⟩ := h.rd.get hk
  rw [List.getElem?_map] at hv
  cases hx : bs[k]? with
  | none => simp [hx] at hv
  | some x =>
    simp [hx] at hv
    subst hv
    exact ⟨b, off, x, e, hb, h.wf x (List.mem_of_getElem? hx), hc⟩
theorem Bts.ext {w w' : World} {A : Option Addr} {n c : Nat} {bs : List Int} (h : Bts w A n c bs) (hE : Ext w w') : Bts w' A n c bs := ⟨h.rd.ext hE, h.wf⟩
theorem Bts.nil (w : World) : Bts w none 0 0 [] := ⟨Rd.nil w, by simp⟩
theorem u8_of_wf {n : Int} (h : (Lit.int .u8 n).wf = true) : 0 ≤ n ∧ n ≤ 255 := by
  simp only [Lit.wf, Bool.and_eq_true, decide_eq_true_eq] at h
  have h1 : IntKind.u8.min = 0 := by decide
  have h2 : IntKind.u8.max = 255 := by decide
  exact ⟨by omega, by omega⟩
theorem bytes_of_open {w : World} {a : Addr} {len cap : Nat} {zs : List Int} (hl : len ≤ cap) (hm : cap ≤ maxLen) (hz : zs.length = cap)
    (hcell : ∀ i, i < zs.length → w.cell? (a.add i) = some (.int .u8 (zs.getD i 0))) (hwz : ∀ n ∈ zs, (Lit.int .u8 n).wf = true) : Bts w (some a) len cap (zs.take len) where
  rd := {
    len := by simp; omega
    le := hl
    max := by simp only [maxLen] at hm; omega
    at_ := fun h0 => by
      have h1 := hcell 0 (by omega)
      have hs : a.spot = none := by
        simp only [Addr.add_zero', World.cell?] at h1
        split at h1
        · split at h1
          · cases h1
          · rename_i hs; simpa using hs
        · cases h1
      obtain ⟨b, off, spot⟩ := a
      cases hs
      refine ⟨b, off, rfl, World.block_lt_of_cell? w _ (by simpa using h1), fun k v hv => ?_⟩
      have hk : k < len := by
        have := (List.getElem?_eq_some_iff.1 hv).1
        simp at this; omega
      have h2 := hcell k (by omega)
      rw [Addr.add_lit] at h2
      rw [h2, ← hv]
      have hk' : k < zs.length := by omega
      simp [hk, hk'] }
  wf := fun x hx => u8_of_wf (hwz x (List.mem_of_mem_take hx))
/-- The cursor at block p over bytes that lay in w0. -/
def Cur (w0 w : World) (p : Nat) : Prop := ∃ A n c bs i h, w.heap[p]? = some (.cells #[.slice A n c, .int .i64 (i : Nat), .int .i64 h] 81 (0, 0)) ∧ Bts w0 A n c bs ∧ i ≤ n ∧ Ext w0 w ∧ w0.heap.size ≤ p
-- spec.l01Byte
set_option maxHeartbeats 2000000 in
theorem l01Byte_any (w0 w : World) (p : Nat) (h : Cur w0 w p) :
    Calls Tryd.prog 38 #[.pointer (some ⟨p, 0, none⟩)] w fun e w' => ∃ X : Nat, e = .returned (.int .i64 (X : Int)) ∧ X < 256 ∧ Cur w0 w' p ∧ w.grownBy w' (some p) := by
  obtain ⟨A, n, c, bs, i, hh, hb, hB, hi, hE, hp⟩ := h
  have HB := hide hB
  have HE := hide hE
  have hpl : p < w.heap.size := (Array.getElem?_eq_some_iff.1 hb).1
  have c0 : w.cell? ⟨p, 0, none⟩ = some (.slice A n c) := by rw [cell_of_row _ _ 0 _ _ _ hb]; rfl
  have c1 : w.cell? ⟨p, 1, none⟩ = some (.int .i64 (i : Nat)) := by rw [cell_of_row _ _ 1 _ _ _ hb]; rfl
  have c2 : w.cell? ⟨p, 2, none⟩ = some (.int .i64 hh) := by rw [cell_of_row _ _ 2 _ _ _ hb]; rfl
  have f1 : w.frozen? ⟨p, 1, none⟩ = false := by simp [World.frozen?, hb]
  have f2 : w.frozen? ⟨p, 2, none⟩ = false := by simp [World.frozen?, hb]
  have HH := hide hb
  have hle := hB.rd.le
  have hmx := hB.rd.max
  clear hB hE hb
  go_enter Tryd.func38, Tryd.ntmps38
  go_wp2
  generalize wrap64 (wrap64 (hh * 6364136223846793005) + 1442695040888963407) = h2 at *
  obtain ⟨w1, hw1⟩ : ∃ w1 : World, w1 = w.setCell ⟨p, 2, none⟩ (.int .i64 h2) := ⟨_, rfl⟩
  have hb1 : w1.heap[p]? = some (.cells #[.slice A n c, .int .i64 (i : Nat), .int .i64 h2] 81 (0, 0)) := by rw [hw1]; simp [World.setCell, Array.getElem?_modify, HH.out]
  have HG1 := hide (show w.grownBy w1 (some p) by rw [hw1]; exact grown_setCell w ⟨p, 2, none⟩ (.int .i64 h2))
  have HE1 := hide (show Ext w0 w1 by rw [hw1]; exact HE.out.setCell (p := ⟨p, 2, none⟩) hp (.int .i64 h2))
  rw [← hw1]
  have hpl1 : p < w1.heap.size := (Array.getElem?_eq_some_iff.1 hb1).1
  clear hw1 c0 c1 c2 f1 f2 HH hpl
  have c0 : w1.cell? ⟨p, 0, none⟩ = some (.slice A n c) := by rw [cell_of_row _ _ 0 _ _ _ hb1]; rfl
  have c1 : w1.cell? ⟨p, 1, none⟩ = some (.int .i64 (i : Nat)) := by rw [cell_of_row _ _ 1 _ _ _ hb1]; rfl
  have c2 : w1.cell? ⟨p, 2, none⟩ = some (.int .i64 h2) := by rw [cell_of_row _ _ 2 _ _ _ hb1]; rfl
  have f1 : w1.frozen? ⟨p, 1, none⟩ = false := by simp [World.frozen?, hb1]
  have HB1 := hide hb1
  clear hb1
  go_wp2
  go_quiet (fail)
  have HBw1 := HB1
  clear c2
  obtain ⟨X, hX, hX2⟩ := and_255 (bits .xor .i64 (h2 / 8589934592) (h2 / 35184372088832))
  rw [hX]
  clear hX
  generalize bits BinOp.xor IntKind.i64 (h2 / 8589934592) (h2 / 35184372088832) = Z1 at *
  generalize h2 / 8589934592 = Z2 at *
  generalize h2 / 35184372088832 = Z3 at *
  generalize wrap64 (hh * 6364136223846793005) = Z4 at *
  obtain ⟨w2, hw2⟩ : ∃ w2 : World, w2 = w1.drewN nq := ⟨_, rfl⟩
  have HEw2 := hide (show Ext w1 w2 by rw [hw2]; exact (Ext.refl _).drewN _)
  have d0 := HEw2.out.get c0
  have d1 := HEw2.out.get c1
  have HBw2 := hide (show w2.heap[p]? = some (.cells #[.slice A n c, .int .i64 (i : Nat), .int .i64 h2] 81 (0, 0)) by rw [hw2]; exact HBw1.out)
  have g1 : w2.frozen? ⟨p, 1, none⟩ = false := by rw [hw2]; exact f1
  rw [← hw2]
  clear hw2 c0 c1 f1 nq
  have c0 := d0
  have c1 := d1
  have f1 := g1
  clear d0 d1 g1
  by_cases hlt : i < n
  · obtain ⟨b, off, x, hA, hbl, hxb, hcx0⟩ := HB.out.get hlt
    have HA := hide hA
    clear hA
    have hli : (i : Int) < (n : Int) := by omega
    go_wp2
    go_quiet (fail)
    obtain ⟨w3, hw3⟩ : ∃ w3 : World, w3 = w2.drewN nq := ⟨_, rfl⟩
    have HEw3 := hide (show Ext w2 w3 by rw [hw3]; exact (Ext.refl _).drewN _)
    have d0 := HEw3.out.get c0
    have d1 := HEw3.out.get c1
    have HBw3 := hide (show w3.heap[p]? = some (.cells #[.slice A n c, .int .i64 (i : Nat), .int .i64 h2] 81 (0, 0)) by rw [hw3]; exact HBw2.out)
    have g1 : w3.frozen? ⟨p, 1, none⟩ = false := by rw [hw3]; exact f1
    rw [← hw3]
    clear hw3 c0 c1 f1 nq
    have c0 := d0
    have c1 := d1
    have f1 := g1
    clear d0 d1 g1
    have hA := HA.out
    subst hA
    have hcx := (HE1.out.trans (HEw2.out.trans HEw3.out)).get hcx0
    go_wp2
    go_quiet (fail)
    obtain ⟨Y, hY, hY2⟩ := and_255 ((X : Int) + x)
    rw [hY]
    clear hY
    obtain ⟨w4, hw4⟩ : ∃ w4 : World, w4 = w3.drewN nq := ⟨_, rfl⟩
    have HEw4 := hide (show Ext w3 w4 by rw [hw4]; exact (Ext.refl _).drewN _)
    have e1 := HEw4.out.get c1
    have HBw4 := hide (show w4.heap[p]? = some (.cells #[.slice (some ⟨b, off, none⟩) n c, .int .i64 (i : Nat), .int .i64 h2] 81 (0, 0)) by rw [hw4]; exact HBw3.out)
    have g1 : w4.frozen? ⟨p, 1, none⟩ = false := by rw [hw4]; exact f1
    rw [← hw4]
    clear hw4 c0 c1 f1 hcx hcx0 nq
    have hin : (i : Int) + 1 ≤ 9223372036854775807 := by omega
    have HS := hide (show (w4.setCell ⟨p, 1, none⟩ (.int .i64 ((i : Int) + 1))).heap[p]? = some (.cells #[.slice (some ⟨b, off, none⟩) n c, .int .i64 ((i + 1 : Nat) : Int), .int .i64 h2] 81 (0, 0)) by simp [World.setCell, Array.getElem?_modify, HBw4.out])
    have HE5 := hide ((HE1.out.trans (HEw2.out.trans (HEw3.out.trans HEw4.out))).setCell (p := ⟨p, 1, none⟩) hp (.int .i64 ((i : Int) + 1)))
    have HG5 := hide ((HG1.out.trans ((HEw2.out.to_grown _).trans ((HEw3.out.to_grown _).trans (HEw4.out.to_grown _)))).trans (grown_setCell w4 ⟨p, 1, none⟩ (.int .i64 ((i : Int) + 1))))
    go_wp2
    go_ret
    exact ⟨Y, rfl, hY2, ⟨some ⟨b, off, none⟩, n, c, bs, i + 1, h2, HS.out, HB.out, hlt, HE5.out, hp⟩, HG5.out⟩
  · have hli : ¬ (i : Int) < (n : Int) := by omega
    go_wp2
    go_quiet (fail)
    obtain ⟨w3, hw3⟩ : ∃ w3 : World, w3 = w2.drewN nq := ⟨_, rfl⟩
    have HEw3 := hide (show Ext w2 w3 by rw [hw3]; exact (Ext.refl _).drewN _)
    have d0 := HEw3.out.get c0
    have d1 := HEw3.out.get c1
    have HBw3 := hide (show w3.heap[p]? = some (.cells #[.slice A n c, .int .i64 (i : Nat), .int .i64 h2] 81 (0, 0)) by rw [hw3]; exact HBw2.out)
    have g1 : w3.frozen? ⟨p, 1, none⟩ = false := by rw [hw3]; exact f1
    rw [← hw3]
    clear hw3 c0 c1 f1 nq
    have c0 := d0
    have c1 := d1
    have f1 := g1
    clear d0 d1 g1
    go_wp2
    go_ret
    exact ⟨X, rfl, hX2, ⟨A, n, c, bs, i, h2, HBw3.out, HB.out, hi, HE1.out.trans (HEw2.out.trans HEw3.out), hp⟩, HG1.out.trans ((HEw2.out.to_grown _).trans (HEw3.out.to_grown _))⟩
-- spec.l01Below
theorem l01Below_any (w0 w : World) (p n : Nat) (h : Cur w0 w p) (h1 : 1 ≤ n) (h2 : n ≤ 256) :
    Calls Tryd.prog 40 #[.pointer (some ⟨p, 0, none⟩), .int .i64 (n : Int)] w fun e w' => ∃ X : Nat, e = .returned (.int .i64 (X : Int)) ∧ X < n ∧ Cur w0 w' p ∧ w.grownBy w' (some p) := by
  have C := hide (l01Byte_any w0 w p h)
  have hn0 : ¬ (n : Int) ≤ 0 := by omega
  have hn1 : (n : Int) ≤ 256 := by omega
  have hnz : ((n : Int) == 0) = false := by rw [beq_eq_false_iff_ne]; omega
  have hnz2 : (n : Int) ≠ 0 := by omega
  clear h
  go_enter Tryd.func40, Tryd.ntmps40
  go_wp2_with (go_at_call 38; refine C.out.mono ?_; rintro e w1 ⟨X, rfl, hX, hC, hg⟩)
  go_ret
  exact ⟨X % n, ret_int (by simp), Nat.mod_lt _ (by omega), hC, hg⟩
-- spec.l01New
theorem l01New_any (A : Option Addr) (n c : Nat) (bs : List Int) (w : World) (h : Bts w A n c bs) :
    Calls Tryd.prog 77 #[.slice A n c] w fun e w' => ∃ p : Nat, e = .returned (.pointer (some ⟨p, 0, none⟩)) ∧ Cur w w' p ∧ Ext w w' := by
  have HB := hide h
  have hle := h.rd.le
  have hmx := h.rd.max
  clear h
  go_enter Tryd.func77, Tryd.ntmps77
  go_wp2
  go_loop [3, 4] (fun a i => ∃ (k : Nat) (h : Int), k ≤ n ∧ i = .int .i64 (k : Int) ∧ a = .int .i64 h) (fun _ i => n - (intOf i).toNat)
  case atStart => exact ⟨0, _, Nat.zero_le _, rfl, rfl⟩
  case round =>
    obtain ⟨k, h, hk, rfl, rfl⟩ := hrel
    by_cases hlt : k < n
    · have hli : (k : Int) < (n : Int) := by omega
      by_cases h4 : k < 4000
      · have h4i : (k : Int) < 4000 := by omega
        obtain ⟨b, off, x, rfl, hbl, hxb, hcx⟩ := HB.out.get hlt
        go_wp2
        go_round
        case rel => exact ⟨k + 1, _, by omega, by go_num, rfl⟩
        case measure => (simp [intOf] <;> omega)
      · have h4i : ¬ (k : Int) < 4000 := by omega
        go_wp2
        go_ret
        exact ⟨w.heap.size, rfl, ⟨A, n, c, bs, 0, h, heap_alloc_new w _, HB.out, Nat.zero_le _, Ext.one _ _, Nat.le_refl _⟩, Ext.one _ _⟩
    · have hli : ¬ (k : Int) < (n : Int) := by omega
      go_wp2
      go_ret
      exact ⟨w.heap.size, rfl, ⟨A, n, c, bs, 0, h, heap_alloc_new w _, HB.out, Nat.zero_le _, Ext.one _ _, Nat.le_refl _⟩, Ext.one _ _⟩
-- spec.l32New
theorem l32New_any (A : Option Addr) (n c : Nat) (bs : List Int) (m : Nat) (w : World) (h : Bts w A n c bs) (hm : m ≤ 1000) :
    Calls Tryd.prog 37 #[.slice A n c, .int .i64 (m : Int)] w fun e w' => ∃ p : Nat, e = .returned (.pointer (some ⟨p, 0, none⟩)) ∧ Cur w w' p := by
  have HB := hide h
  clear h
  go_enter Tryd.func37, Tryd.ntmps37
  go_wp2_with (go_at_call 77; refine (l01New_any _ _ _ bs _ HB.out).mono ?_; rintro e w1 ⟨p, rfl, hC, hE⟩)
  have HC := hide hC
  clear hC hE
  go_loopw [6] (fun i wr => ∃ k : Nat, k ≤ m ∧ i = .int .i64 (k : Int) ∧ Hid (Cur w wr p)) (fun i _ => m - (intOf i).toNat)
  case atStart => exact ⟨0, Nat.zero_le _, rfl, HC⟩
  case round =>
    obtain ⟨k, hk, rfl, HK⟩ := hrel
    by_cases hlt : k < m
    · have hli : (k : Int) < (m : Int) := by omega
      go_wp2_with (go_at_call 38; refine (l01Byte_any _ _ _ HK.out).mono ?_; rintro e w2 ⟨X, rfl, hX, hC2, hg2⟩)
      go_roundw
      case rel => exact ⟨k + 1, by omega, by go_num, hC2⟩
      case measure => (simp [intOf] <;> omega)
    · have hli : ¬ (k : Int) < (m : Int) := by omega
      go_wp2
      go_ret
      exact ⟨p, rfl, HK.out⟩

end Go.Proofs.YtbaljgdepicigaaDoor
