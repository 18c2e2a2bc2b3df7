/-
  Contracts of the functions that turn a tour: one result reversed; other names.
-/
import Derived.Deep.RegionLaw
import Derived.Deep.RegionHeld3
import Derived.Laws.ShiftsVar
import Derived.Test.YtbaljgdepicigaaDoorBase
import Derived.Test.YtbaljgdepicigaaDoorMgA
import Derived.Test.YtbaljgdepicigaaDoorLib
import Derived.Test.YtbaljgdepicigaaDoorAid
import Derived.Test.YtbaljgdepicigaaDoorStep
import Derived.Test.YtbaljgdepicigaaDoorGrid
import Derived.Test.YtbaljgdepicigaaDoorLibF
import Derived.Test.YtbaljgdepicigaaDoorSeed
import Derived.Test.YtbaljgdepicigaaDoorTour
import Derived.Test.YtbaljgdepicigaaDoorTourB
import Derived.Test.YtbaljgdepicigaaDoorCurA
import Derived.Test.YtbaljgdepicigaaDoorDrwA
import Derived.Test.YtbaljgdepicigaaDoorDrwB
namespace Go.Proofs.YtbaljgdepicigaaDoor
open Go.RowKit
set_option linter.unusedVariables false
set_option maxRecDepth 100000

-- words
theorem xor_shl {m b : Nat} (hb : b < 8) (hm : m < 256) : bits BinOp.xor .i64 (m : Int) (wrap64 (2 ^ b)) = ((m ^^^ 2 ^ b : Nat) : Int) := by
  obtain ⟨h2, h3⟩ := shl_natD b hb
  rw [h2]
  have h4 : m ^^^ 2 ^ b < 256 := xor_lt8 hm hb
  generalize (2 : Nat) ^ b = q at *
  have h1 : (BitVec.ofInt 64 (m : Int)).toNat = m := by
    rw [BitVec.ofInt_natCast, BitVec.toNat_ofNat]; exact Nat.mod_eq_of_lt (by omega)
  have h5 : (BitVec.ofInt 64 (q : Int)).toNat = q := by
    rw [BitVec.ofInt_natCast, BitVec.toNat_ofNat]; exact Nat.mod_eq_of_lt (by omega)
  show IntKind.i64.wrap ((BitVec.ofInt 64 (m : Int) ^^^ BitVec.ofInt 64 (q : Int)).toNat : Int) = _
  rw [BitVec.toNat_xor, h1, h5, IntKind.wrap_i64]
  omega
theorem two_store {w : World} {K : Nat} {x y : Value} {t : TypeId} (h : w.heap[K]? = some (.cells #[x, y] t (0, 0))) (u v : Value) : ((w.setCell ⟨K, 0, none⟩ u).setCell ⟨K, 1, none⟩ v).heap[K]? = some (.cells #[u, v] t (0, 0)) := by
  have h1 := heap_setCell_same w K 0 _ t u h
  have h2 := heap_setCell_same _ K 1 _ t v h1
  exact h2
/-- A new box of a tour, and its rows. -/
def Boxed (n : Nat) (W0 w' : World) (K : Nat) (B : Option Addr) (d : Nat) (xs : List Int) : Prop :=
  W0.heap.size ≤ K ∧ w'.heap[K]? = some (.cells #[.int .i64 (n : Int), .slice B n d] 26 (0, 0)) ∧ OwI w' W0.heap.size B n d xs ∧ B.map (·.block) ≠ some K ∧ Ext W0 w'
theorem boxed_new {n : Nat} {W0 w5 : World} {B : Option Addr} {d : Nat} {xs : List Int} (ho : OwI w5 W0.heap.size B n d xs) (hE : Ext W0 w5) : Boxed n W0 (w5.alloc (.cells #[.int .i64 (n : Int), .slice B n d] 26)) w5.heap.size B d xs :=
  ⟨hE.size, heap_new _ _, ho.ext (Ext.one _ _), fun e => by have := (ho.block _ e).2; omega, hE.alloc _⟩
theorem boxed_store {n K : Nat} {W0 w5 : World} {B : Option Addr} {d : Nat} {xs : List Int} {x y : Value} (ho : OwI w5 W0.heap.size B n d xs) (hE : Ext W0 w5) (hK : W0.heap.size ≤ K) (hne : B.map (·.block) ≠ some K) (h : w5.heap[K]? = some (.cells #[x, y] 26 (0, 0))) :
    Boxed n W0 ((w5.setCell ⟨K, 0, none⟩ (.int .i64 (n : Int))).setCell ⟨K, 1, none⟩ (.slice B n d)) K B d xs :=
  ⟨hK, two_store h _ _, ⟨ho.ow.keep fun k hk => by
    have : k ≠ K := by rintro rfl; exact hne hk
    rw [Below.heap_setCell _ _ _ _ (by show k ≠ K; omega), Below.heap_setCell _ _ _ _ (by show k ≠ K; omega)], ho.wf⟩, hne, (hE.setCell hK _).setCell hK _⟩
-- spec.l02Flip
set_option maxHeartbeats 8000000 in
theorem l02Flip_any (n : Nat) (A : Option Addr) (c : Nat) (xs : List Int) (a b : Nat) (w : World) (ht : tourOk (n : Int) xs) (h : Ints w A n c xs) (ha : a < n) (hb : b < n) (hne : a ≠ b) :
    Calls Tryd.prog 92 #[.agg #[.int .i64 (n : Int), .slice A n c], .int .i64 (a : Int), .int .i64 (b : Int)] w (RetTour w n) := by
  have hn8 := (tourOk_size ht).2.1
  have hl := h.len
  rw [hl] at hn8
  have HI := hide h
  have HT := hide ht
  clear h ht hl
  obtain ⟨W, hW⟩ : ∃ W : World, W = (w.alloc (.cells #[.int .i64 (n : Int), .slice A n c] 26)).alloc (.cells #[.int .i64 0, .slice none 0 0] 26) := ⟨_, rfl⟩
  have HE := hide (show Ext w W by rw [hW]; exact (Ext.one _ _).alloc _)
  have HZ := hide (show W.heap.size = w.heap.size + 2 by rw [hW]; simp)
  have B0 := hide (show W.cell? ⟨w.heap.size, 0, none⟩ = some (.int .i64 (n : Int)) by rw [hW]; simp)
  have B1 := hide (show W.cell? ⟨w.heap.size, 1, none⟩ = some (.slice A n c) by rw [hW]; simp)
  have BR := hide (show W.heap[w.heap.size + 1]? = some (.cells #[.int .i64 0, .slice none 0 0] 26 (0, 0)) by rw [hW]; have := heap_new (w.alloc (.cells #[.int .i64 (n : Int), .slice A n c] 26)) (.cells #[.int .i64 0, .slice none 0 0] 26); simpa using this)
  have HW := hide hW
  clear hW
  go_enter Tryd.func92, Tryd.ntmps92
  go_wp2
  rw [← HW.out]
  have b0 := B0.out
  have b1 := B1.out
  have hsz1 : 0 + n ≤ 4294967296 := by omega
  have hlt : w.heap.size < W.heap.size := by have := HZ.out; omega
  have La := hide (show OwI ((W.alloc (.cells #[] 3)).drew) W.heap.size (some ⟨W.heap.size, 0, none⟩) 0 0 [] from (ints_lit0 W (Nat.le_refl _)).ext (Ext.refl _).drew)
  have Lb := hide (show OwI (((W.alloc (.cells #[] 3)).alloc (.cells #[.int .i64 0, .slice none 0 0] 26)).drew) W.heap.size (some ⟨W.heap.size, 0, none⟩) 0 0 [] from (ints_lit0 W (Nat.le_refl _)).ext (Ext.one _ _).drew)
  have Lc := hide (show OwI (((W.alloc (.cells #[.int .i64 0, .slice none 0 0] 26)).alloc (.cells #[] 3)).drew) W.heap.size (some ⟨W.heap.size + 1, 0, none⟩) 0 0 [] from by
    have := ints_lit0 (W.alloc (.cells #[.int .i64 0, .slice none 0 0] 26)) (base := W.heap.size) (by simp)
    rw [World.size_alloc] at this
    exact this.ext (Ext.refl _).drew)
  have Kb := hide (show (((W.alloc (.cells #[] 3)).alloc (.cells #[.int .i64 0, .slice none 0 0] 26)).drew).heap[W.heap.size + 1]? = some (.cells #[.int .i64 0, .slice none 0 0] 26 (0, 0)) from by have := heap_new (W.alloc (.cells #[] 3)) (.cells #[.int .i64 0, .slice none 0 0] 26); rw [World.size_alloc] at this; exact this)
  have Kc := hide (show (((W.alloc (.cells #[.int .i64 0, .slice none 0 0] 26)).alloc (.cells #[] 3)).drew).heap[W.heap.size]? = some (.cells #[.int .i64 0, .slice none 0 0] 26 (0, 0)) from heap_old (heap_new W _))
  have Xa := hide (show Ext W ((W.alloc (.cells #[] 3)).drew) from (Ext.one W _).drew)
  have Xb := hide (show Ext W (((W.alloc (.cells #[] 3)).alloc (.cells #[.int .i64 0, .slice none 0 0] 26)).drew) from ((Ext.one W _).alloc _).drew)
  have Xc := hide (show Ext W (((W.alloc (.cells #[.int .i64 0, .slice none 0 0] 26)).alloc (.cells #[] 3)).drew) from ((Ext.one W _).alloc _).drew)
  refine Code.wp_mono (Q := Exit.then (fun a' w' => ∃ (K : Nat) (B : Option Addr) (d : Nat) (u8 u9 u10 u11 u12 u13 u14 : Value), Boxed n W w' K B d xs ∧ a' = { tmps := #[.agg #[.int .i64 (n : Int), .slice A n c], .int .i64 (a : Int), .int .i64 (b : Int), .pointer (some ⟨w.heap.size, 0, none⟩), undef, undef, .pointer (some ⟨w.heap.size + 1, 0, none⟩), .pointer (some ⟨K, 0, none⟩), u8, u9, u10, u11, u12, u13, u14, undef, undef, undef, undef, undef, undef, undef, undef, undef, undef, undef, undef, undef, undef, undef, undef, undef, undef, undef, undef, undef, undef, undef, undef, undef], defers := [] }) (fun _ _ _ => False)) ?cont ?reg
  case reg =>
    go_region_law (first
      | (refine step_push_ints (base := W.heap.size) rfl (.tmp 10) (.tmp 12) rfl rfl La.out A n c _ rfl (HI.out.ext (HE.out.trans Xa.out)) hsz1 Xa.out.size ?_; intro A5 c5 w5 hb5 hg5 hat5; rw [Nat.zero_add, List.nil_append] at hb5; have HB5 := hide hb5; have HX5 := hide (Xa.out.grown hg5 (fun q hq => (La.out.block q hq).1)); have s5 : w.heap.size < w5.heap.size := Nat.lt_of_lt_of_le hlt HX5.out.size; have m0 := HX5.out.get B0.out; have m1 := HX5.out.get B1.out; clear hb5 hg5 hat5)
      | (refine step_push_ints (base := W.heap.size) rfl (.tmp 10) (.tmp 12) rfl rfl Lb.out A n c _ rfl (HI.out.ext (HE.out.trans Xb.out)) hsz1 Xb.out.size ?_; intro A5 c5 w5 hb5 hg5 hat5; rw [Nat.zero_add, List.nil_append] at hb5; have HB5 := hide hb5; have HX5 := hide (Xb.out.grown hg5 (fun q hq => (Lb.out.block q hq).1)); have s5 : w.heap.size < w5.heap.size := Nat.lt_of_lt_of_le hlt HX5.out.size; have m0 := HX5.out.get B0.out; have m1 := HX5.out.get B1.out; have k5 := (hg5.block _ (Array.getElem?_eq_some_iff.1 Kb.out).1 (by simp)).trans Kb.out; have K5 := hide k5; obtain ⟨c0, c1, f0, f1, s0⟩ := two_cells (Ext.refl w5) k5; have NE := hide hat5; clear hb5 hg5 hat5 k5)
      | (refine step_push_ints (base := W.heap.size) rfl (.tmp 10) (.tmp 12) rfl rfl Lc.out A n c _ rfl (HI.out.ext (HE.out.trans Xc.out)) hsz1 Xc.out.size ?_; intro A5 c5 w5 hb5 hg5 hat5; rw [Nat.zero_add, List.nil_append] at hb5; have HB5 := hide hb5; have HX5 := hide (Xc.out.grown hg5 (fun q hq => (Lc.out.block q hq).1)); have s5 : w.heap.size < w5.heap.size := Nat.lt_of_lt_of_le hlt HX5.out.size; have m0 := HX5.out.get B0.out; have m1 := HX5.out.get B1.out; have k5 := (hg5.block _ (Array.getElem?_eq_some_iff.1 Kc.out).1 (by simp)).trans Kc.out; have K5 := hide k5; obtain ⟨c0, c1, f0, f1, s0⟩ := two_cells (Ext.refl w5) k5; have NE := hide hat5; clear hb5 hg5 hat5 k5))
    all_goals
      refine ⟨_, A5, c5, _, _, _, _, _, _, _, ?_, rfl⟩
      first
        | exact boxed_new HB5.out HX5.out
        | exact boxed_store HB5.out HX5.out (by omega) (fun e => by rcases NE.out with h | h <;> (rw [h] at e; have e2 := Option.some.inj e; first | (simp only [World.drew, World.size_alloc] at e2; omega) | (simp at e2; done) | omega)) K5.out
  case cont =>
    clear b0 b1 La Lb Lc Kb Kc Xa Xb Xc
    intro e a' w1 hx
    cases e with
    | exit id => exact hx.elim
    | goto t => exact hx.elim
    | ret => exact hx.elim
    | panic ch => exact hx.elim
    | outgrown => exact hx.elim
    | normal =>
    obtain ⟨K, B, d, u8, u9, u10, u11, u12, u13, u14, ⟨hK, hb7, hoB, hneB, hX1⟩, rfl⟩ := hx
    obtain ⟨c0, c1, f0, f1, s0⟩ := two_cells (Ext.refl w1) hb7
    obtain ⟨ma, hma, hma8⟩ := rowsOk_get (tourOk_rows HT.out) ha
    obtain ⟨mb, hmb, hmb8⟩ := rowsOk_get (tourOk_rows HT.out) hb
    obtain ⟨b', off', x, rfl, hbb, hbl, hx, wx, hc, hf⟩ := hoB.get ha
    rw [hma] at hx
    obtain rfl : (ma : Int) = x := Option.some.inj hx
    have hXV := hide (xor_shl (m := ma) (b := b) (by omega) hma8)
    have hYV := hide (xor_shl (m := mb) (b := a) (by omega) hmb8)
    have HFL := hide (flip_ok HT.out hne hma hmb hma8 hmb8 ha hb)
    have hKb : K ≠ b' := fun e => hneB (by rw [e]; rfl)
    have hai : (a : Int) < (n : Int) := by omega
    have hbi : (b : Int) < (n : Int) := by omega
    have HS1 := hide (show OwI ((w1.setCell ⟨b', off' + a, none⟩ (.int .i64 ((ma ^^^ 2 ^ b : Nat) : Int))).drew) W.heap.size (some ⟨b', off', none⟩) n d (xs.set a ((ma ^^^ 2 ^ b : Nat) : Int)) from (hoB.store (k := a) rfl ha (x := ((ma ^^^ 2 ^ b : Nat) : Int)) (nat_i64D (by have := xor_lt8 (m := ma) (a := b) hma8 (by omega); omega))).ext (Ext.refl _).drew)
    have HK1 := hide (show ((w1.setCell ⟨b', off' + a, none⟩ (.int .i64 ((ma ^^^ 2 ^ b : Nat) : Int))).drew).heap[K]? = some (.cells #[.int .i64 (n : Int), .slice (some ⟨b', off', none⟩) n d] 26 (0, 0)) from (Below.heap_setCell _ _ _ _ hKb).trans hb7)
    have HX1 := hide (show Ext W ((w1.setCell ⟨b', off' + a, none⟩ (.int .i64 ((ma ^^^ 2 ^ b : Nat) : Int))).drew) from (hX1.setCell (p := ⟨b', off' + a, none⟩) (hoB.block b' rfl).1 _).drew)
    have HMB := hide hmb
    clear hx hma hmb hb7 hoB hX1 hneB
    go_wp2
    go_region
    all_goals
      go_wp2
      rw [hXV.out]
      obtain ⟨w2, hw2⟩ : ∃ w2 : World, w2 = (w1.setCell ⟨b', off' + a, none⟩ (.int .i64 ((ma ^^^ 2 ^ b : Nat) : Int))).drew := ⟨_, rfl⟩
      rw [← hw2]
      rw [← hw2] at HS1 HK1 HX1
      have hb7 := HK1.out
      obtain ⟨c0, c1, f0, f1, s0⟩ := two_cells (Ext.refl w2) hb7
      obtain ⟨b'', off'', y, e9, hbb, hbl, hy, wy, hc, hf⟩ := HS1.out.get hb
      cases e9
      rw [List.getElem?_set_ne hne, HMB.out] at hy
      obtain rfl : (mb : Int) = y := Option.some.inj hy
      have HS2 := hide (show OwI ((w2.setCell ⟨b', off' + b, none⟩ (.int .i64 ((mb ^^^ 2 ^ a : Nat) : Int))).drew) W.heap.size (some ⟨b', off', none⟩) n d ((xs.set a ((ma ^^^ 2 ^ b : Nat) : Int)).set b ((mb ^^^ 2 ^ a : Nat) : Int)) from (HS1.out.store (k := b) rfl hb (x := ((mb ^^^ 2 ^ a : Nat) : Int)) (nat_i64D (by have := xor_lt8 (m := mb) (a := a) hmb8 (by omega); omega))).ext (Ext.refl _).drew)
      have HK2 := hide (show ((w2.setCell ⟨b', off' + b, none⟩ (.int .i64 ((mb ^^^ 2 ^ a : Nat) : Int))).drew).heap[K]? = some (.cells #[.int .i64 (n : Int), .slice (some ⟨b', off', none⟩) n d] 26 (0, 0)) from (Below.heap_setCell _ _ _ _ hKb).trans hb7)
      have HX2 := hide (show Ext W ((w2.setCell ⟨b', off' + b, none⟩ (.int .i64 ((mb ^^^ 2 ^ a : Nat) : Int))).drew) from (HX1.out.setCell (p := ⟨b', off' + b, none⟩) (HS1.out.block b' rfl).1 _).drew)
      clear hy hb7 hw2
      go_wp2
      go_region
      all_goals
        rw [hYV.out]
        obtain ⟨w3, hw3⟩ : ∃ w3 : World, w3 = (w2.setCell ⟨b', off' + b, none⟩ (.int .i64 ((mb ^^^ 2 ^ a : Nat) : Int))).drew := ⟨_, rfl⟩
        rw [← hw3]
        rw [← hw3] at HS2 HK2 HX2
        clear c0 c1 f0 f1 s0
        have hb7 := HK2.out
        have hb6 := (HX2.out.block (k := w.heap.size + 1) (by have := HZ.out; omega)).trans BR.out
        obtain ⟨c0, c1, f0, f1, s0⟩ := two_cells (Ext.refl w3) hb7
        obtain ⟨c00, c01, f00, f01, s00⟩ := two_cells (Ext.refl w3) hb6
        clear hb7 hb6 hw3
        go_wp2
        refine bodyPost_ret (v := .agg #[.int .i64 (n : Int), .slice (some ⟨b', off', none⟩) n d]) (by simp [results, Tryd.results92, go_sem, c00, c01]) rfl ⟨_, some ⟨b', off', none⟩, d, HFL.out, rfl, ?_, ((HE.out.trans HX2.out).setCell (p := ⟨w.heap.size + 1, 0, none⟩) (by show w.heap.size ≤ w.heap.size + 1; omega) _).setCell (p := ⟨w.heap.size + 1, 1, none⟩) (by show w.heap.size ≤ w.heap.size + 1; omega) _⟩
        exact ((HS2.out.mono (by have := HZ.out; omega)).stored (k := w.heap.size + 1) _ _).mono (by omega)

end Go.Proofs.YtbaljgdepicigaaDoor
