/-
  Contracts of the cursor over bytes from which arguments are drawn: only bounds are told.
-/
import Derived.Laws.ShiftsVar
import Derived.Deep.QuietTactic
import Derived.Test.YtbaljgdepicigaaBase
import Derived.Test.YtbaljgdepicigaaMathA
import Derived.Test.YtbaljgdepicigaaMathD
import Derived.Test.YtbaljgdepicigaaLib
import Derived.Test.YtbaljgdepicigaaAid
import Derived.Test.YtbaljgdepicigaaStep
import Derived.Test.YtbaljgdepicigaaGrid
namespace Go.Proofs.Ytbaljgdepicigaa
open Go.RowKit
set_option linter.unusedVariables false

-- words of the cursor
theorem and_255 (a : Int) : ∃ X : Nat, bits .and .i64 a 255 = (X : Int) ∧ X < 256 := by
  have h2 : (BitVec.ofInt 64 (255 : Int)).toNat = 255 := by decide
  have h3 : (BitVec.ofInt 64 a &&& BitVec.ofInt 64 (255 : Int)).toNat ≤ 255 := by
    rw [BitVec.toNat_and, h2]; exact Nat.and_le_right
  refine ⟨(BitVec.ofInt 64 a &&& BitVec.ofInt 64 (255 : Int)).toNat, ?_, by omega⟩
  show IntKind.i64.wrap ((BitVec.ofInt 64 a &&& BitVec.ofInt 64 (255 : Int)).toNat : Int) = _
  generalize (BitVec.ofInt 64 a &&& BitVec.ofInt 64 (255 : Int)).toNat = z at *
  rw [IntKind.wrap_i64]
  omega
/-- A slice of bytes that is read. -/
structure Bts (w : World) (A : Option Addr) (n c : Nat) (bs : List Int) : Prop where
  rd : Rd w A n c (bs.map (Value.int .u8))
  wf : ∀ x ∈ bs, 0 ≤ x ∧ x ≤ 255
theorem Bts.get {w : World} {A : Option Addr} {n c : Nat} {bs : List Int} (h : Bts w A n c bs) {k : Nat} (hk : k < n) : ∃ b off x, A = some ⟨b, off, none⟩ ∧ b < w.heap.size ∧ (0 ≤ x ∧ x ≤ 255) ∧ w.cell? ⟨b, off + k, none⟩ = some (.int .u8 x) := by
  obtain ⟨b, off, v, e, hb, hv, hc⟩ := h.rd.get hk
  rw [List.getElem?_map] at hv
  cases hx : bs[k]? with
  | none => simp [hx] at hv
  | some x =>
    simp [hx] at hv
    subst hv
    exact ⟨b, off, x, e, hb, h.wf x (List.mem_of_getElem? hx), hc⟩
theorem Bts.ext {w w' : World} {A : Option Addr} {n c : Nat} {bs : List Int} (h : Bts w A n c bs) (hE : Ext w w') : Bts w' A n c bs := ⟨h.rd.ext hE, h.wf⟩
theorem Bts.nil (w : World) : Bts w none 0 0 [] := ⟨Rd.nil w, by simp⟩
theorem u8_of_wf {n : Int} (h : (Lit.int .u8 n).wf = true) : 0 ≤ n ∧ n ≤ 255 := by
  simp only [Lit.wf, Bool.and_eq_true, decide_eq_true_eq] at h
  have h1 : IntKind.u8.min = 0 := by decide
  have h2 : IntKind.u8.max = 255 := by decide
  exact ⟨by omega, by omega⟩
theorem bytes_of_open {w : World} {a : Addr} {len cap : Nat} {zs : List Int} (hl : len ≤ cap) (hm : cap ≤ maxLen) (hz : zs.length = cap)
    (hcell : ∀ i, i < zs.length → w.cell? (a.add i) = some (.int .u8 (zs.getD i 0))) (hwz : ∀ n ∈ zs, (Lit.int .u8 n).wf = true) : Bts w (some a) len cap (zs.take len) where
  rd := {
    len := by simp; omega
    le := hl
    max := by simp only [maxLen] at hm; omega
    at_ := fun h0 => by
      have h1 := hcell 0 (by omega)
      have hs : a.spot = none := by
        simp only [Addr.add_zero', World.cell?] at h1
        split at h1
        · split at h1
          · cases h1
          · rename_i hs; simpa using hs
        · cases h1
      obtain ⟨b, off, spot⟩ := a
      cases hs
      refine ⟨b, off, rfl, World.block_lt_of_cell? w _ (by simpa using h1), fun k v hv => ?_⟩
      have hk : k < len := by
        have := (List.getElem?_eq_some_iff.1 hv).1
        simp at this; omega
      have h2 := hcell k (by omega)
      rw [Addr.add_lit] at h2
      rw [h2, ← hv]
      have hk' : k < zs.length := by omega
      simp [hk, hk'] }
  wf := fun x hx => u8_of_wf (hwz x (List.mem_of_mem_take hx))
/-- The cursor at block p over bytes that lay in w0. -/
def Cur (w0 w : World) (p : Nat) : Prop := ∃ A n c bs i h, w.heap[p]? = some (.cells #[.slice A n c, .int .i64 (i : Nat), .int .i64 h] 130 (0, 0)) ∧ Bts w0 A n c bs ∧ i ≤ n ∧ Ext w0 w ∧ w0.heap.size ≤ p
-- spec.l01Byte
set_option maxHeartbeats 2000000 in
theorem l01Byte_any (w0 w : World) (p : Nat) (h : Cur w0 w p) :
    Calls Try.prog 92 #[.pointer (some ⟨p, 0, none⟩)] w fun e w' => ∃ X : Nat, e = .returned (.int .i64 (X : Int)) ∧ X < 256 ∧ Cur w0 w' p ∧ w.grownBy w' (some p) := by
  obtain ⟨A, n, c, bs, i, hh, hb, hB, hi, hE, hp⟩ := h
  have HB := hide hB
  have HE := hide hE
  have hpl : p < w.heap.size := (Array.getElem?_eq_some_iff.1 hb).1
  have c0 : w.cell? ⟨p, 0, none⟩ = some (.slice A n c) := by rw [cell_of_row _ _ 0 _ _ _ hb]; rfl
  have c1 : w.cell? ⟨p, 1, none⟩ = some (.int .i64 (i : Nat)) := by rw [cell_of_row _ _ 1 _ _ _ hb]; rfl
  have c2 : w.cell? ⟨p, 2, none⟩ = some (.int .i64 hh) := by rw [cell_of_row _ _ 2 _ _ _ hb]; rfl
  have f1 : w.frozen? ⟨p, 1, none⟩ = false := by simp [World.frozen?, hb]
  have f2 : w.frozen? ⟨p, 2, none⟩ = false := by simp [World.frozen?, hb]
  have HH := hide hb
  have hle := hB.rd.le
  have hmx := hB.rd.max
  clear hB hE hb
  go_enter Try.func92, Try.ntmps92
  go_wp2
  generalize wrap64 (wrap64 (hh * 6364136223846793005) + 1442695040888963407) = h2 at *
  obtain ⟨w1, hw1⟩ : ∃ w1 : World, w1 = w.setCell ⟨p, 2, none⟩ (.int .i64 h2) := ⟨_, rfl⟩
  have hb1 : w1.heap[p]? = some (.cells #[.slice A n c, .int .i64 (i : Nat), .int .i64 h2] 130 (0, 0)) := by rw [hw1]; simp [World.setCell, Array.getElem?_modify, HH.out]
  have HG1 := hide (show w.grownBy w1 (some p) by rw [hw1]; exact grown_setCell w ⟨p, 2, none⟩ (.int .i64 h2))
  have HE1 := hide (show Ext w0 w1 by rw [hw1]; exact HE.out.setCell (p := ⟨p, 2, none⟩) hp (.int .i64 h2))
  rw [← hw1]
  have hpl1 : p < w1.heap.size := (Array.getElem?_eq_some_iff.1 hb1).1
  clear hw1 c0 c1 c2 f1 f2 HH hpl
  have c0 : w1.cell? ⟨p, 0, none⟩ = some (.slice A n c) := by rw [cell_of_row _ _ 0 _ _ _ hb1]; rfl
  have c1 : w1.cell? ⟨p, 1, none⟩ = some (.int .i64 (i : Nat)) := by rw [cell_of_row _ _ 1 _ _ _ hb1]; rfl
  have c2 : w1.cell? ⟨p, 2, none⟩ = some (.int .i64 h2) := by rw [cell_of_row _ _ 2 _ _ _ hb1]; rfl
  have f1 : w1.frozen? ⟨p, 1, none⟩ = false := by simp [World.frozen?, hb1]
  have HB1 := hide hb1
  clear hb1
  go_wp2
  go_quiet (fail)
  have HBw1 := HB1
  clear c2
  obtain ⟨X, hX, hX2⟩ := and_255 (bits .xor .i64 (h2 / 8589934592) (h2 / 35184372088832))
  rw [hX]
  clear hX
  generalize bits BinOp.xor IntKind.i64 (h2 / 8589934592) (h2 / 35184372088832) = Z1 at *
  generalize h2 / 8589934592 = Z2 at *
  generalize h2 / 35184372088832 = Z3 at *
  generalize wrap64 (hh * 6364136223846793005) = Z4 at *
  obtain ⟨w2, hw2⟩ : ∃ w2 : World, w2 = w1.drewN nq := ⟨_, rfl⟩
  have HEw2 := hide (show Ext w1 w2 by rw [hw2]; exact (Ext.refl _).drewN _)
  have d0 := HEw2.out.get c0
  have d1 := HEw2.out.get c1
  have HBw2 := hide (show w2.heap[p]? = some (.cells #[.slice A n c, .int .i64 (i : Nat), .int .i64 h2] 130 (0, 0)) by rw [hw2]; exact HBw1.out)
  have g1 : w2.frozen? ⟨p, 1, none⟩ = false := by rw [hw2]; exact f1
  rw [← hw2]
  clear hw2 c0 c1 f1 nq
  have c0 := d0
  have c1 := d1
  have f1 := g1
  clear d0 d1 g1
  by_cases hlt : i < n
  · obtain ⟨b, off, x, hA, hbl, hxb, hcx0⟩ := HB.out.get hlt
    have HA := hide hA
    clear hA
    have hli : (i : Int) < (n : Int) := by omega
    go_wp2
    go_quiet (fail)
    obtain ⟨w3, hw3⟩ : ∃ w3 : World, w3 = w2.drewN nq := ⟨_, rfl⟩
    have HEw3 := hide (show Ext w2 w3 by rw [hw3]; exact (Ext.refl _).drewN _)
    have d0 := HEw3.out.get c0
    have d1 := HEw3.out.get c1
    have HBw3 := hide (show w3.heap[p]? = some (.cells #[.slice A n c, .int .i64 (i : Nat), .int .i64 h2] 130 (0, 0)) by rw [hw3]; exact HBw2.out)
    have g1 : w3.frozen? ⟨p, 1, none⟩ = false := by rw [hw3]; exact f1
    rw [← hw3]
    clear hw3 c0 c1 f1 nq
    have c0 := d0
    have c1 := d1
    have f1 := g1
    clear d0 d1 g1
    have hA := HA.out
    subst hA
    have hcx := (HE1.out.trans (HEw2.out.trans HEw3.out)).get hcx0
    go_wp2
    go_quiet (fail)
    obtain ⟨Y, hY, hY2⟩ := and_255 ((X : Int) + x)
    rw [hY]
    clear hY
    obtain ⟨w4, hw4⟩ : ∃ w4 : World, w4 = w3.drewN nq := ⟨_, rfl⟩
    have HEw4 := hide (show Ext w3 w4 by rw [hw4]; exact (Ext.refl _).drewN _)
    have e1 := HEw4.out.get c1
    have HBw4 := hide (show w4.heap[p]? = some (.cells #[.slice (some ⟨b, off, none⟩) n c, .int .i64 (i : Nat), .int .i64 h2] 130 (0, 0)) by rw [hw4]; exact HBw3.out)
    have g1 : w4.frozen? ⟨p, 1, none⟩ = false := by rw [hw4]; exact f1
    rw [← hw4]
    clear hw4 c0 c1 f1 hcx hcx0 nq
    have hin : (i : Int) + 1 ≤ 9223372036854775807 := by omega
    have HS := hide (show (w4.setCell ⟨p, 1, none⟩ (.int .i64 ((i : Int) + 1))).heap[p]? = some (.cells #[.slice (some ⟨b, off, none⟩) n c, .int .i64 ((i + 1 : Nat) : Int), .int .i64 h2] 130 (0, 0)) by simp [World.setCell, Array.getElem?_modify, HBw4.out])
    have HE5 := hide ((HE1.out.trans (HEw2.out.trans (HEw3.out.trans HEw4.out))).setCell (p := ⟨p, 1, none⟩) hp (.int .i64 ((i : Int) + 1)))
    have HG5 := hide ((HG1.out.trans ((HEw2.out.to_grown _).trans ((HEw3.out.to_grown _).trans (HEw4.out.to_grown _)))).trans (grown_setCell w4 ⟨p, 1, none⟩ (.int .i64 ((i : Int) + 1))))
    go_wp2
    go_ret
    exact ⟨Y, rfl, hY2, ⟨some ⟨b, off, none⟩, n, c, bs, i + 1, h2, HS.out, HB.out, hlt, HE5.out, hp⟩, HG5.out⟩
  · have hli : ¬ (i : Int) < (n : Int) := by omega
    go_wp2
    go_quiet (fail)
    obtain ⟨w3, hw3⟩ : ∃ w3 : World, w3 = w2.drewN nq := ⟨_, rfl⟩
    have HEw3 := hide (show Ext w2 w3 by rw [hw3]; exact (Ext.refl _).drewN _)
    have d0 := HEw3.out.get c0
    have d1 := HEw3.out.get c1
    have HBw3 := hide (show w3.heap[p]? = some (.cells #[.slice A n c, .int .i64 (i : Nat), .int .i64 h2] 130 (0, 0)) by rw [hw3]; exact HBw2.out)
    have g1 : w3.frozen? ⟨p, 1, none⟩ = false := by rw [hw3]; exact f1
    rw [← hw3]
    clear hw3 c0 c1 f1 nq
    have c0 := d0
    have c1 := d1
    have f1 := g1
    clear d0 d1 g1
    go_wp2
    go_ret
    exact ⟨X, rfl, hX2, ⟨A, n, c, bs, i, h2, HBw3.out, HB.out, hi, HE1.out.trans (HEw2.out.trans HEw3.out), hp⟩, HG1.out.trans ((HEw2.out.to_grown _).trans (HEw3.out.to_grown _))⟩
-- spec.l01Below
theorem l01Below_any (w0 w : World) (p n : Nat) (h : Cur w0 w p) (h1 : 1 ≤ n) (h2 : n ≤ 256) :
    Calls Try.prog 91 #[.pointer (some ⟨p, 0, none⟩), .int .i64 (n : Int)] w fun e w' => ∃ X : Nat, e = .returned (.int .i64 (X : Int)) ∧ X < n ∧ Cur w0 w' p ∧ w.grownBy w' (some p) := by
  have C := hide (l01Byte_any w0 w p h)
  have hn0 : ¬ (n : Int) ≤ 0 := by omega
  have hn1 : (n : Int) ≤ 256 := by omega
  have hnz : ((n : Int) == 0) = false := by rw [beq_eq_false_iff_ne]; omega
  have hnz2 : (n : Int) ≠ 0 := by omega
  clear h
  go_enter Try.func91, Try.ntmps91
  go_wp2_with (go_at_call 92; refine C.out.mono ?_; rintro e w1 ⟨X, rfl, hX, hC, hg⟩)
  go_ret
  exact ⟨X % n, ret_int (by simp), Nat.mod_lt _ (by omega), hC, hg⟩
-- spec.l01New
theorem l01New_any (A : Option Addr) (n c : Nat) (bs : List Int) (w : World) (h : Bts w A n c bs) :
    Calls Try.prog 149 #[.slice A n c] w fun e w' => ∃ p : Nat, e = .returned (.pointer (some ⟨p, 0, none⟩)) ∧ Cur w w' p ∧ Ext w w' := by
  have HB := hide h
  have hle := h.rd.le
  have hmx := h.rd.max
  clear h
  go_enter Try.func149, Try.ntmps149
  go_wp2
  go_loop [3, 4] (fun a i => ∃ (k : Nat) (h : Int), k ≤ n ∧ i = .int .i64 (k : Int) ∧ a = .int .i64 h) (fun _ i => n - (intOf i).toNat)
  case atStart => exact ⟨0, _, Nat.zero_le _, rfl, rfl⟩
  case round =>
    obtain ⟨k, h, hk, rfl, rfl⟩ := hrel
    by_cases hlt : k < n
    · have hli : (k : Int) < (n : Int) := by omega
      by_cases h4 : k < 4000
      · have h4i : (k : Int) < 4000 := by omega
        obtain ⟨b, off, x, rfl, hbl, hxb, hcx⟩ := HB.out.get hlt
        go_wp2
        go_round
        case rel => exact ⟨k + 1, _, by omega, by go_num, rfl⟩
        case measure => (simp [intOf] <;> omega)
      · have h4i : ¬ (k : Int) < 4000 := by omega
        go_wp2
        go_ret
        exact ⟨w.heap.size, rfl, ⟨A, n, c, bs, 0, h, heap_alloc_new w _, HB.out, Nat.zero_le _, Ext.one _ _, Nat.le_refl _⟩, Ext.one _ _⟩
    · have hli : ¬ (k : Int) < (n : Int) := by omega
      go_wp2
      go_ret
      exact ⟨w.heap.size, rfl, ⟨A, n, c, bs, 0, h, heap_alloc_new w _, HB.out, Nat.zero_le _, Ext.one _ _, Nat.le_refl _⟩, Ext.one _ _⟩
-- spec.l32New
theorem l32New_any (A : Option Addr) (n c : Nat) (bs : List Int) (m : Nat) (w : World) (h : Bts w A n c bs) (hm : m ≤ 1000) :
    Calls Try.prog 81 #[.slice A n c, .int .i64 (m : Int)] w fun e w' => ∃ p : Nat, e = .returned (.pointer (some ⟨p, 0, none⟩)) ∧ Cur w w' p := by
  have HB := hide h
  clear h
  go_enter Try.func81, Try.ntmps81
  go_wp2_with (go_at_call 149; refine (l01New_any _ _ _ bs _ HB.out).mono ?_; rintro e w1 ⟨p, rfl, hC, hE⟩)
  have HC := hide hC
  clear hC hE
  go_loopw [6] (fun i wr => ∃ k : Nat, k ≤ m ∧ i = .int .i64 (k : Int) ∧ Hid (Cur w wr p)) (fun i _ => m - (intOf i).toNat)
  case atStart => exact ⟨0, Nat.zero_le _, rfl, HC⟩
  case round =>
    obtain ⟨k, hk, rfl, HK⟩ := hrel
    by_cases hlt : k < m
    · have hli : (k : Int) < (m : Int) := by omega
      go_wp2_with (go_at_call 92; refine (l01Byte_any _ _ _ HK.out).mono ?_; rintro e w2 ⟨X, rfl, hX, hC2, hg2⟩)
      go_roundw
      case rel => exact ⟨k + 1, by omega, by go_num, hC2⟩
      case measure => (simp [intOf] <;> omega)
    · have hli : ¬ (k : Int) < (m : Int) := by omega
      go_wp2
      go_ret
      exact ⟨p, rfl, HK.out⟩
-- spec.l20Draw
/-- Games that are drawn. -/
def drawnG (rows : List (List Int)) : Prop := rows.length ≤ 11 ∧ ∀ r ∈ rows, ∃ u v : Nat, r = [(u : Int), (v : Int)] ∧ u < 4 ∧ v < 4
theorem OwG.past {w w' : World} {lo : Nat} {A : Option Addr} {n c p : Nat} {rows : List (List Int)} (h : OwG w lo w.heap.size A n c rows) (hg : w.grownBy w' (some p)) (hp : p < lo) : OwG w' lo w'.heap.size A n c rows :=
  (h.only (l := p) (u := p + 1) (Only.of_grown hg fun k e => by cases e; omega) (.inr (by omega))).mono (Nat.le_refl _) hg.size
/-- The first blocks of a world alone. -/
def cutW (w : World) (n : Nat) : World := { w with heap := w.heap.extract 0 n }
theorem cutW_size (w : World) {n : Nat} (h : n ≤ w.heap.size) : (cutW w n).heap.size = n := by simp [cutW]; omega
theorem cutW_get (w : World) {n k : Nat} (h : n ≤ w.heap.size) (hk : k < n) : (cutW w n).heap[k]? = w.heap[k]? := by
  show (w.heap.extract 0 n)[k]? = _
  rw [Array.getElem?_extract, if_pos (by omega), Nat.zero_add]
theorem cutW_ext (w : World) {n : Nat} (h : n ≤ w.heap.size) : Ext (cutW w n) w := ⟨rfl, rfl, rfl, by rw [cutW_size w h]; exact h, fun k hk => by rw [cutW_size w h] at hk; exact (cutW_get w h hk).symm⟩
theorem l20Draw_any (w0 w : World) (p : Nat) (h : Cur w0 w p) :
    Calls Try.prog 100 #[.pointer (some ⟨p, 0, none⟩)] w fun e w' => ∃ (rows : List (List Int)) (A : Option Addr) (c : Nat), e = .returned (.slice A rows.length c) ∧ drawnG rows ∧ OwG w' w0.heap.size w'.heap.size A rows.length c rows ∧ Ext w0 w' := by
  have HC := hide h
  have hpl : p < w.heap.size := by obtain ⟨A, n, c, bs, i, hh, hb, _⟩ := h; exact (Array.getElem?_eq_some_iff.1 hb).1
  have hw0 : w0.heap.size ≤ w.heap.size := by obtain ⟨A, n, c, bs, i, hh, hb, _, _, hE, _⟩ := h; exact hE.size
  clear h
  have HCL := hide (show Cur w0 (w.alloc (.cells #[] 23)) p from by
    obtain ⟨A, n, c, bs, i, hh, hb, hB, hi, hE, hp⟩ := HC.out
    exact ⟨A, n, c, bs, i, hh, ((Ext.one w _).block hpl).trans hb, hB, hi, hE.alloc _, hp⟩)
  have HO := hide (show OwG (w.alloc (.cells #[] 23)) w.heap.size (w.alloc (.cells #[] 23)).heap.size (some ⟨w.heap.size, 0, none⟩) 0 0 [] from ⟨[], ⟨rfl, Nat.le_refl _, by omega, .inr ⟨w.heap.size, 0, #[], rfl, Nat.le_refl _, heap_alloc_new w _, by simp, fun k v hk => by simp at hk⟩⟩, fun k hk => by cases hk; simp, rfl, (fun i x r hx => by simp at hx), (fun i j x y _ hx => by simp at hx)⟩)
  go_enter Try.func100, Try.ntmps100
  go_wp2_with (go_at_call 91; refine (l01Below_any _ _ _ 12 HCL.out (by omega) (by omega)).mono ?_; rintro e w1 ⟨N, rfl, hN, hC1, hg1⟩)
  have HC1 := hide hC1
  have HO1 := hide (HO.out.past hg1 hpl)
  have HSZ1 := hide (show w.heap.size ≤ w1.heap.size from by have := hg1.size; simp at this; omega)
  clear hC1 hg1
  go_loopw [3, 4] (fun l i wr => ∃ (k m co : Nat) (Ao : Option Addr) (rows : List (List Int)), k + m = N ∧ i = .int .i64 (k : Int) ∧ l = .slice Ao m co ∧ w.heap.size ≤ wr.heap.size ∧ Hid (Cur w0 wr p) ∧ Hid (OwG wr w.heap.size wr.heap.size Ao m co rows) ∧ Hid (∀ r ∈ rows, ∃ u v : Nat, r = [(u : Int), (v : Int)] ∧ u < 4 ∧ v < 4)) (fun _ i _ => (intOf i).toNat)
  case atStart => exact ⟨N, 0, _, _, [], by omega, rfl, rfl, HSZ1.out, HC1, HO1, hide (by simp)⟩
  case round =>
    obtain ⟨k, m, co, Ao, rows, hkm, rfl, rfl, hsz0, HCr, HOr, HR⟩ := hrel
    by_cases hk : k = 0
    · have hk0 : ¬ (0 : Int) < (k : Int) := by omega
      have hk0n : ¬ 0 < k := by omega
      have hl := HOr.out.len
      clear hk
      go_wp2
      go_ret
      obtain ⟨A, n, c, bs, i, hh, hb, hB, hi, hE, hp⟩ := HCr.out
      exact ⟨rows, Ao, co, by rw [hl]; rfl, ⟨by omega, HR.out⟩, by rw [hl]; exact HOr.out.mono hw0 (Nat.le_refl _), hE⟩
    · have hk0 : (0 : Int) < (k : Int) := by omega
      have hk0n : 0 < k := by omega
      obtain ⟨j, hj⟩ : ∃ j, k = j + 1 := ⟨k - 1, by omega⟩
      have hjk : (k : Int) - 1 = (j : Int) := by omega
      have HJ := hide hj
      have HKM := hide hkm
      have hm30 : m + 1 ≤ 1073741824 := by omega
      have HSUM := hide (show j + (m + 1) = N by omega)
      have HLT := hide (show j < k by omega)
      have hj12 : j ≤ 12 := by omega
      have hk12 : k ≤ 12 := by omega
      clear hk hj hkm
      go_wp2_with fail
      refine (l01Below_any _ _ _ 4 HCr.out (by omega) (by omega)).mono ?_
      rintro e w2 ⟨u, rfl, hu, hC2, hg2⟩
      have HC2 := hide hC2
      have HO2 := hide (HOr.out.past hg2 hpl)
      have hz2 := hg2.size
      clear hC2 hg2
      go_wp2_with fail
      refine (l01Below_any _ _ _ 4 HC2.out (by omega) (by omega)).mono ?_
      rintro e w3 ⟨v, rfl, hv, hC3, hg3⟩
      have HC3 := hide hC3
      have HO3 := hide (HO2.out.past hg3 hpl)
      have hz3 := hg3.size
      clear hC3 hg3
      have hlo : w.heap.size ≤ w3.heap.size := by omega
      have HX3 := hide (show Ext w0 w3 from by obtain ⟨_, _, _, _, _, _, _, _, _, hE, _⟩ := HC3.out; exact hE)
      go_wp2_with (at_builtin; refine push_row (w0 := w3) (lo := w.heap.size) rfl (.tmp 15) (.tmp 20) rfl rfl HO3.out ((Ext.one w3 (.cells #[.int .i64 (u : Int), .int .i64 (v : Int)] 3)).alloc (.cells #[.slice (some ⟨w3.heap.size, 0, none⟩) 2 2] 23)) ((ints_lit2 w3 (base := w3.heap.size) (u : Int) (v : Int) ⟨by omega, by omega⟩ ⟨by omega, by omega⟩ (Nat.le_refl _)).ext (Ext.one _ _)) (w3.heap.size + 1) rfl (by simp) hm30 hlo ?_; intro A5 d5 w5 hg5 hz5)
      have HG5 := hide hg5
      have HZ5 := hide (hz5 w0 ((HX3.out.alloc (.cells #[.int .i64 (u : Int), .int .i64 (v : Int)] 3)).alloc (.cells #[.slice (some ⟨w3.heap.size, 0, none⟩) 2 2] 23)) hw0)
      have HSZ5 := hide (show w.heap.size ≤ w5.heap.size from by have h9 := (hz5 (cutW w3 w.heap.size) (((cutW_ext w3 hlo).alloc _).alloc _) (by rw [cutW_size w3 hlo]; exact Nat.le_refl _)).size; rw [cutW_size w3 hlo] at h9; exact h9)
      have HC5 := hide (show Cur w0 w5 p from by
        have hX := hz5 (cutW w3 w.heap.size) (((cutW_ext w3 hlo).alloc _).alloc _) (by rw [cutW_size w3 hlo]; exact Nat.le_refl _)
        obtain ⟨A9, n9, c9, bs9, i9, hh9, hb9, hB9, hi9, hE9, hp9⟩ := HC3.out
        exact ⟨A9, n9, c9, bs9, i9, hh9, (hX.block (by rw [cutW_size w3 hlo]; exact hpl)).trans ((cutW_get w3 hlo hpl).trans hb9), hB9, hi9, HZ5.out, hp9⟩)
      clear hg5 hz5
      go_roundw
      case rel => exact ⟨j, m + 1, d5, A5, rows ++ [[(u : Int), (v : Int)]], HSUM.out, by go_num, rfl, HSZ5.out, HC5, HG5, hide (fun r hr => by
        rcases List.mem_append.1 hr with hr | hr
        · exact HR.out r hr
        · simp at hr; exact ⟨u, v, hr, hu, hv⟩)⟩
      case measure => (simp [intOf] <;> exact HLT.out)
-- spec.MakeGames
theorem makeGames_any (A : Option Addr) (n c : Nat) (bs : List Int) (m : Nat) (w : World) (h : Bts w A n c bs) (hm : m ≤ 1000) :
    Calls Try.prog 30 #[.slice A n c, .int .i64 (m : Int)] w fun e w' => ∃ (rows : List (List Int)) (B : Option Addr) (d : Nat), e = .returned (.slice B rows.length d) ∧ drawnG rows ∧ OwG w' w.heap.size w'.heap.size B rows.length d rows ∧ Ext w w' := by
  have C := hide (l32New_any A n c bs m w h hm)
  clear h
  go_enter Try.func30, Try.ntmps30
  go_wp2_with (first
    | (go_at_call 81; refine C.out.mono ?_; rintro e w1 ⟨p, rfl, hC⟩)
    | (go_at_call 100; refine (l20Draw_any _ _ _ hC).mono ?_; rintro e w2 ⟨rows, B, d, rfl, hd, ho, hE⟩))
  go_ret
  exact ⟨rows, B, d, rfl, hd, ho, hE⟩

end Go.Proofs.Ytbaljgdepicigaa
