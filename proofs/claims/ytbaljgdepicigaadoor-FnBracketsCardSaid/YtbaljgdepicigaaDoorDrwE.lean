/-
  Contracts of the function that draws a tour with few triangles, and of the one that makes it.
-/
import Derived.Deep.RegionLaw
import Derived.Deep.RegionHeld3
import Derived.Laws.ShiftsVar
import Derived.Test.YtbaljgdepicigaaDoorBase
import Derived.Test.YtbaljgdepicigaaDoorMgA
import Derived.Test.YtbaljgdepicigaaDoorLib
import Derived.Test.YtbaljgdepicigaaDoorAid
import Derived.Test.YtbaljgdepicigaaDoorStep
import Derived.Test.YtbaljgdepicigaaDoorGrid
import Derived.Test.YtbaljgdepicigaaDoorLibF
import Derived.Test.YtbaljgdepicigaaDoorSeed
import Derived.Test.YtbaljgdepicigaaDoorTour
import Derived.Test.YtbaljgdepicigaaDoorTourB
import Derived.Test.YtbaljgdepicigaaDoorCurA
import Derived.Test.YtbaljgdepicigaaDoorDrwA
import Derived.Test.YtbaljgdepicigaaDoorDrwB
import Derived.Test.YtbaljgdepicigaaDoorDrwC
import Derived.Test.YtbaljgdepicigaaDoorDrwD
namespace Go.Proofs.YtbaljgdepicigaaDoor
open Go.RowKit
set_option linter.unusedVariables false
set_option maxRecDepth 100000

-- words
/-- A new valid tour comes back, and the cursor goes on. -/
def RetTourC (w0 w : World) (p most : Nat) (e : Ending) (w' : World) : Prop := ∃ n xs A c, (1 ≤ n ∧ n ≤ most) ∧ tourOk (n : Int) xs ∧ e = .returned (.agg #[.int .i64 (n : Int), .slice A n c]) ∧ OwI w' w.heap.size A n c xs ∧ Cur w0 w' p ∧ w.grownBy w' (some p)
/-- A boxed tour beside the cursor. -/
def Tst (w0 W wr : World) (p K n : Nat) (A : Option Addr) (c : Nat) (xs : List Int) : Prop :=
  tourOk (n : Int) xs ∧ wr.heap[K]? = some (.cells #[.int .i64 (n : Int), .slice A n c] 26 (0, 0)) ∧ OwI wr W.heap.size A n c xs ∧ A.map (·.block) ≠ some K ∧ Cur w0 wr p ∧ W.grownBy wr (some p)
theorem Tst.grown {w0 W wr w' : World} {p K n : Nat} {A : Option Addr} {c : Nat} {xs : List Int} (h : Tst w0 W wr p K n A c xs) (hg : wr.grownBy w' (some p)) (hC : Cur w0 w' p) (hK : K ≠ p) (hp : p < W.heap.size) : Tst w0 W w' p K n A c xs := by
  obtain ⟨h1, h2, h3, h4, h5, h6⟩ := h
  refine ⟨h1, (hg.block K (Array.getElem?_eq_some_iff.1 h2).1 (fun e => hK (Option.some.inj e))).trans h2, h3.grown hg (.inl fun e => ?_), h4, hC, grown_trans h6 hg (.inr (.inl rfl))⟩
  have := (h3.block p e).1
  omega
theorem Tst.ext {w0 W wr w' : World} {p K n : Nat} {A : Option Addr} {c : Nat} {xs : List Int} (h : Tst w0 W wr p K n A c xs) (hE : Ext wr w') (hK : K ≠ p) (hp : p < W.heap.size) : Tst w0 W w' p K n A c xs := h.grown (hE.to_grown _) (h.2.2.2.2.1.ext hE) hK hp
theorem Tst.cur {w0 W wr : World} {p K n : Nat} {A : Option Addr} {c : Nat} {xs : List Int} (h : Tst w0 W wr p K n A c xs) : Cur w0 wr p := h.2.2.2.2.1
theorem Tst.ok {w0 W wr : World} {p K n : Nat} {A : Option Addr} {c : Nat} {xs : List Int} (h : Tst w0 W wr p K n A c xs) : tourOk (n : Int) xs := h.1
theorem Tst.ints {w0 W wr : World} {p K n : Nat} {A : Option Addr} {c : Nat} {xs : List Int} (h : Tst w0 W wr p K n A c xs) : Ints wr A n c xs := h.2.2.1.ints
theorem Tst.cells {w0 W wr : World} {p K n : Nat} {A : Option Addr} {c : Nat} {xs : List Int} (h : Tst w0 W wr p K n A c xs) :
    wr.cell? ⟨K, 0, none⟩ = some (.int .i64 (n : Int)) ∧ wr.cell? ⟨K, 1, none⟩ = some (.slice A n c) ∧ wr.frozen? ⟨K, 0, none⟩ = false ∧ wr.frozen? ⟨K, 1, none⟩ = false ∧ K < wr.heap.size := two_cells (Ext.refl _) h.2.1
/-- Another tour goes into the box. -/
theorem Tst.store {w0 W wr : World} {p K n : Nat} {A B : Option Addr} {c d : Nat} {xs ys : List Int} (h : Tst w0 W wr p K n A c xs) (hy : tourOk (n : Int) ys) (ho : OwI wr W.heap.size B n d ys) (hne : B.map (·.block) ≠ some K) (hK : K ≠ p) (hW : W.heap.size ≤ K) (hw : w0.heap.size ≤ K) :
    Tst w0 W ((wr.setCell ⟨K, 0, none⟩ (.int .i64 (n : Int))).setCell ⟨K, 1, none⟩ (.slice B n d)) p K n B d ys := by
  obtain ⟨h1, h2, h3, h4, h5, h6⟩ := h
  refine ⟨hy, two_store h2 _ _, ⟨ho.ow.keep fun k hk => ?_, ho.wf⟩, hne, (h5.setCell (q := ⟨K, 0, none⟩) hK hw _).setCell (q := ⟨K, 1, none⟩) hK hw _, grown_new (grown_new h6 (q := ⟨K, 0, none⟩) hW _) (q := ⟨K, 1, none⟩) hW _⟩
  have : k ≠ K := by rintro rfl; exact hne hk
  rw [Below.heap_setCell _ _ _ _ (by show k ≠ K; omega), Below.heap_setCell _ _ _ _ (by show k ≠ K; omega)]
theorem flip_at {n a k : Nat} (ha : a < n) (hk : k < n - 1) : ((a : Int) + 1 + (k : Int)).tmod (n : Int) = (((a + 1 + k) % n : Nat) : Int) ∧ (a + 1 + k) % n < n ∧ a ≠ (a + 1 + k) % n := by
  refine ⟨by rw [Int.tmod_eq_emod_of_nonneg (by omega), Int.natCast_emod]; simp, Nat.mod_lt _ (by omega), ?_⟩
  rcases Nat.lt_or_ge (a + 1 + k) n with h | h
  · rw [Nat.mod_eq_of_lt h]; omega
  · rw [Nat.mod_eq_sub_mod h, Nat.mod_eq_of_lt (by omega)]; omega
-- spec.l01Once
theorem l01Once_any (w0 w : World) (p n : Nat) (h : Cur w0 w p) (h1 : 1 ≤ n) (h2 : n ≤ 256) :
    Calls Tryd.prog 90 #[.pointer (some ⟨p, 0, none⟩), .int .i64 (n : Int)] w fun e w' => ∃ b : Bool, e = .returned (.bool b) ∧ Cur w0 w' p ∧ w.grownBy w' (some p) := by
  have C := hide (l01Below_any w0 w p n h h1 h2)
  clear h
  go_enter Tryd.func90, Tryd.ntmps90
  go_wp2_with (go_at_call 40; refine C.out.mono ?_; rintro e w1 ⟨X, rfl, hX, hC, hg⟩)
  go_ret
  exact ⟨_, rfl, hC, hg⟩
-- spec.l05Draw
set_option maxHeartbeats 8000000 in
theorem l05Draw_any (w0 w : World) (p most : Nat) (h : Cur w0 w p) (h1 : 1 ≤ most) (h8 : most ≤ 8) :
    Calls Tryd.prog 63 #[.pointer (some ⟨p, 0, none⟩), .int .i64 (most : Int)] w (RetTourC w0 w p most) := by
  have hpl := h.lt
  have hold := h.old
  obtain ⟨W, hW⟩ : ∃ W : World, W = w.alloc (.cells #[.int .i64 0, .slice none 0 0] 26) := ⟨_, rfl⟩
  have HE := hide (show Ext w W by rw [hW]; exact Ext.one _ _)
  have HZ := hide (show W.heap.size = w.heap.size + 1 by rw [hW]; simp)
  have HB := hide (show W.heap[w.heap.size]? = some (.cells #[.int .i64 0, .slice none 0 0] 26 (0, 0)) by rw [hW]; exact heap_new w _)
  have HC := hide (h.ext HE.out)
  have HW := hide hW
  have hpW : p < W.heap.size := by have := HZ.out; omega
  have h0W : w0.heap.size ≤ w.heap.size := hold.1.size
  clear h hW
  go_enter Tryd.func63, Tryd.ntmps63
  go_wp2_with fail
  rw [← HW.out]
  refine (l02Draw_any _ _ _ most HC.out h1 h8).mono ?_
  rintro e w1 ⟨n, xs, A, c, hn, ht, rfl, ho, hC1, hg1⟩
  have hz1 := hg1.size
  obtain ⟨w2, hw2⟩ : ∃ w2 : World, w2 = w1.alloc (.cells #[.int .i64 (n : Int), .slice A n c] 26) := ⟨_, rfl⟩
  have HS := hide (show Tst w0 W w2 p w1.heap.size n A c xs from by
    have hE : Ext w1 w2 := by rw [hw2]; exact Ext.one _ _
    exact ⟨ht, by rw [hw2]; exact heap_new _ _, ho.ext hE, fun e => by have := (ho.block _ e).2; omega, hC1.ext hE, grown_ext hg1 hE⟩)
  obtain ⟨K, hK⟩ : ∃ K, K = w1.heap.size := ⟨_, rfl⟩
  rw [← hK] at HS
  have hKW : W.heap.size ≤ K := by omega
  have hKp : K ≠ p := by omega
  have hKw : w0.heap.size ≤ K := by have := HE.out.size; omega
  have hn8 : n ≤ 8 := by omega
  have hzW := HE.out.size
  have HW2 := hide hw2
  have HK := hide hK
  clear ht ho hC1 hg1 hw2 hK
  go_wp2_with fail
  rw [← HW2.out, ← HK.out]
  refine (l01Once_any _ _ _ 3 HS.out.2.2.2.2.1 (by omega) (by omega)).mono ?_
  rintro e w3 ⟨bb, rfl, hC3, hg3⟩
  have HS3 := hide (HS.out.grown hg3 hC3 hKp hpW)
  clear hC3 hg3 HS HW2
  cases bb with
  | false =>
    obtain ⟨c0, c1, f0, f1, s0⟩ := HS3.out.cells
    obtain ⟨htf, hbf, hof, hnf, hCf, hgf⟩ := HS3.out
    have hb4 := (hgf.block w.heap.size (by have := HZ.out; omega) (fun e => by have := Option.some.inj e; omega)).trans HB.out
    obtain ⟨c00, c01, f00, f01, s00⟩ := two_cells (Ext.refl _) hb4
    have HTF := hide htf
    have HOF := hide hof
    have HCF := hide hCf
    have HGF := hide hgf
    clear htf hbf hof hnf hCf hgf hb4
    go_wp2
    refine bodyPost_ret (v := .agg #[.int .i64 (n : Int), .slice A n c]) (by simp [results, Tryd.results63, go_sem, c00, c01]) rfl ⟨n, xs, A, c, hn, HTF.out, rfl, ?_, ?_, ?_⟩
    · exact (HOF.out.mono (by have := HZ.out; omega)).stored _ _
    · exact (HCF.out.setCell (q := ⟨w.heap.size, 0, none⟩) (by show w.heap.size ≠ p; omega) h0W _).setCell (q := ⟨w.heap.size, 1, none⟩) (by show w.heap.size ≠ p; omega) h0W _
    · exact grown_new (grown_new (ext_grown HE.out HGF.out) (q := ⟨w.heap.size, 0, none⟩) (Nat.le_refl _) _) (q := ⟨w.heap.size, 1, none⟩) (Nat.le_refl _) _
  | true =>
    obtain ⟨c0, c1, f0, f1, s0⟩ := HS3.out.cells
    have CO := hide (fun W' => l02OfV_any n 268435455 W' hn.1 hn8 (by omega))
    go_wp2
    refine Code.wp_mono (Q := Exit.then (fun a' w' => ∃ (xs' : List Int) (A' : Option Addr) (c' : Nat) (u13 u14 u15 u16 u17 u18 u19 u20 : Value), Tst w0 W w' p K n A' c' xs' ∧ a' = { tmps := #[.pointer (some ⟨p, 0, none⟩), .int .i64 (most : Int), undef, undef, .pointer (some ⟨w.heap.size, 0, none⟩), .pointer (some ⟨K, 0, none⟩), undef, undef, .pointer (some ⟨p, 0, none⟩), .int .i64 (most : Int), .agg #[.int .i64 (n : Int), .slice A n c], .pointer (some ⟨p, 0, none⟩), .bool true, u13, u14, u15, u16, u17, u18, u19, u20, undef, undef, undef, undef, undef, undef, undef, undef, undef, undef, undef, undef, undef, undef, undef, undef, undef, undef, undef, undef, undef, undef, undef, undef, undef, undef, undef, undef, undef, undef], defers := [] }) (fun _ _ _ => False)) ?cont ?reg
    case reg =>
      go_region_law (first
        | (go_simp; go_at_call 39; (with_reducible refine (CO.out _).mono ?_); rintro e w4 ⟨ys, B, d, hty, rfl, hoy, hE4⟩; have HS4 := hide (HS3.out.ext ((Ext.refl _).drew.trans hE4) hKp hpW); have HTY := hide hty; have HOY := hide hoy; obtain ⟨m0, m1, mf0, mf1, ms⟩ := HS4.out.cells; clear hty hoy hE4)
        | (go_simp; go_at_call 73; (with_reducible refine (l02Order_any w0 w4 p n HS4.out.cur hn8).mono ?_); rintro e w5 ⟨o, E, f, hpo, rfl, hoo, hC5, hg5⟩; have HS5 := hide (HS4.out.grown hg5 hC5 hKp hpW); have HPO := hide hpo; have HOO := hide hoo; have HY5 := hide ((HOY.out.grown hg5 (.inl fun e => by have h9 := (HOY.out.block p e).1; have h10 := HS3.out.cur.lt; exact Nat.lt_irrefl _ (Nat.lt_of_lt_of_le h10 h9))).ints); obtain ⟨m0, m1, mf0, mf1, ms⟩ := HS5.out.cells; clear hpo hoo hC5 hg5)
        | (go_simp; go_at_call 91; (with_reducible refine (l02Rename_any n B d ys E f o w5 HTY.out HPO.out HY5.out HOO.out.ints).mono ?_); rintro e w6 ⟨zs, F, g, htz, rfl, hoz, hE6⟩; have HS6 := hide (HS5.out.ext hE6 hKp hpW); have HTZ := hide htz; have HOZ := hide hoz; have hz5 := HS5.out.2.2.2.2.2.size; have hk5 := HS5.out.cells.2.2.2.2; obtain ⟨m0, m1, mf0, mf1, ms⟩ := HS6.out.cells; clear htz hoz hE6))
      all_goals
        exact ⟨zs, F, g, _, _, _, _, _, _, _, _, HS6.out.store HTZ.out (HOZ.out.mono hz5) (fun e => by have := (HOZ.out.block _ e).1; omega) hKp hKW hKw, rfl⟩
    case cont =>
      intro e a' w4 hx
      cases e with
      | exit id => exact hx.elim
      | goto t => exact hx.elim
      | ret => exact hx.elim
      | panic ch => exact hx.elim
      | outgrown => exact hx.elim
      | normal =>
      obtain ⟨xs', A', c', u13, u14, u15, u16, u17, u18, u19, u20, hS4, rfl⟩ := hx
      have HS4 := hide hS4
      clear hS4 c0 c1 f0 f1 s0 CO
      have CB := hide (show Calls Tryd.prog 40 #[.pointer (some ⟨p, 0, none⟩), .int .i64 3] w4 _ from l01Below_any w0 w4 p 3 HS4.out.2.2.2.2.1 (by omega) (by omega))
      go_wp2_with fail
      refine CB.out.mono ?_
      rintro e w5 ⟨N, rfl, hN, hC5, hg5⟩
      have HS5 := hide (HS4.out.grown hg5 hC5 hKp hpW)
      clear hC5 hg5 CB
      go_wp2
      go_loopw [6] (fun i wr => ∃ (k : Nat) (xs : List Int) (A : Option Addr) (c : Nat), k ≤ N ∧ i = .int .i64 (k : Int) ∧ Hid (Tst w0 W wr p K n A c xs)) (fun i _ => (intOf i).toNat)
      case atStart => exact ⟨N, xs', A', c', Nat.le_refl _, rfl, HS5⟩
      case round =>
        obtain ⟨k, xs, A, c, hk, rfl, HSr⟩ := hrel
        obtain ⟨c0, c1, f0, f1, s0⟩ := HSr.out.cells
        by_cases hgo : 0 < k ∧ 1 < n
        · have hk0 : (0 : Int) < (k : Int) := by omega
          have hn1 : (1 : Int) < (n : Int) := by omega
          have hnz : ¬ (n : Int) = 0 := by omega
          have hnz0 : ¬ n = 0 := by omega
          obtain ⟨q, hnq⟩ : ∃ q : Nat, (n : Int) - 1 = (q : Int) := ⟨n - 1, by omega⟩
          have hwq : IntKind.i64.wrap (q : Int) = (q : Int) := by rw [IntKind.wrap_i64]; omega
          have CB := hide (l01Below_any w0 wr p n HSr.out.2.2.2.2.1 hn.1 (by omega))
          go_wp2_with fail
          refine CB.out.mono ?_
          rintro e w6 ⟨a, rfl, ha, hC6, hg6⟩
          have HS6 := hide (HSr.out.grown hg6 hC6 hKp hpW)
          clear hC6 hg6 CB c0 c1 f0 f1 s0
          obtain ⟨c0, c1, f0, f1, s0⟩ := HS6.out.cells
          have CB := hide (show Calls Tryd.prog 40 #[.pointer (some ⟨p, 0, none⟩), .int .i64 (q : Int)] w6.drew _ from l01Below_any w0 w6.drew p q (HS6.out.2.2.2.2.1.ext (Ext.refl _).drew) (by omega) (by omega))
          have HSd := hide (HS6.out.ext (Ext.refl _).drew hKp hpW)
          have hwa : IntKind.i64.wrap ((a : Int) + 1) = (a : Int) + 1 := by rw [IntKind.wrap_i64]; omega
          go_wp2
          go_region_law (first
            | (go_simp; go_at_call 40; (with_reducible refine CB.out.mono ?_); rintro e w7 ⟨j, rfl, hj, hC7, hg7⟩; have HS7 := hide (HSd.out.grown hg7 hC7 hKp hpW); have hfl := flip_at (n := n) (k := j) ha (by omega); obtain ⟨b, hb⟩ : ∃ b, b = (a + 1 + j) % n := ⟨_, rfl⟩; rw [← hb] at hfl; have HFL := hide hfl; have hfb := HFL.out.1; clear hfl; have hj1 : j + 1 < n := (by omega); have hwj : IntKind.i64.wrap ((a : Int) + 1 + (j : Int)) = (a : Int) + 1 + (j : Int) := (by rw [IntKind.wrap_i64]; omega); obtain ⟨m0, m1, mf0, mf1, ms⟩ := HS7.out.cells; clear hC7 hg7 hb)
            | (go_simp; go_at_call 92; (with_reducible refine (l02Flip_any n A c xs a b w7 HS7.out.ok HS7.out.ints ha HFL.out.2.1 HFL.out.2.2).mono ?_); rintro e w8 ⟨zs, F, g, htz, rfl, hoz, hE8⟩; have HS8 := hide (HS7.out.ext hE8 hKp hpW); have HTZ := hide htz; have HOZ := hide hoz; have hz7 := HS7.out.2.2.2.2.2.size; have hk7 := HS7.out.cells.2.2.2.2; obtain ⟨m0, m1, mf0, mf1, ms⟩ := HS8.out.cells; clear htz hoz hE8))
          all_goals
            have HS9 := hide (HS8.out.store HTZ.out (HOZ.out.mono hz7) (fun e => by have := (HOZ.out.block _ e).1; omega) hKp hKW hKw)
            go_simp
            go_wp2
            go_roundw
            case rel => exact ⟨k - 1, zs, F, g, by omega, by first | go_num | exact congrArg _ (by omega), HS9⟩
            case measure => (simp [intOf] <;> omega)
        · by_cases hk0 : 0 < k
          · have hki : (0 : Int) < (k : Int) := by omega
            have hn1 : ¬ (1 : Int) < (n : Int) := by omega
            obtain ⟨htf, hbf, hof, hnf, hCf, hgf⟩ := HSr.out
            have hb4 := (hgf.block w.heap.size (by have := HZ.out; omega) (fun e => by have := Option.some.inj e; omega)).trans HB.out
            obtain ⟨c00, c01, f00, f01, s00⟩ := two_cells (Ext.refl _) hb4
            have HTF := hide htf
            have HOF := hide hof
            have HCF := hide hCf
            have HGF := hide hgf
            clear htf hbf hof hnf hCf hgf hb4
            go_wp2
            refine bodyPost_ret (v := .agg #[.int .i64 (n : Int), .slice A n c]) (by simp [results, Tryd.results63, go_sem, c00, c01]) rfl ⟨n, xs, A, c, hn, HTF.out, rfl, ?_, ?_, ?_⟩
            · exact (HOF.out.mono (by have := HZ.out; omega)).stored _ _
            · exact (HCF.out.setCell (q := ⟨w.heap.size, 0, none⟩) (by show w.heap.size ≠ p; omega) h0W _).setCell (q := ⟨w.heap.size, 1, none⟩) (by show w.heap.size ≠ p; omega) h0W _
            · exact grown_new (grown_new (ext_grown HE.out HGF.out) (q := ⟨w.heap.size, 0, none⟩) (Nat.le_refl _) _) (q := ⟨w.heap.size, 1, none⟩) (Nat.le_refl _) _
          · have hki : ¬ (0 : Int) < (k : Int) := by omega
            obtain ⟨htf, hbf, hof, hnf, hCf, hgf⟩ := HSr.out
            have hb4 := (hgf.block w.heap.size (by have := HZ.out; omega) (fun e => by have := Option.some.inj e; omega)).trans HB.out
            obtain ⟨c00, c01, f00, f01, s00⟩ := two_cells (Ext.refl _) hb4
            have HTF := hide htf
            have HOF := hide hof
            have HCF := hide hCf
            have HGF := hide hgf
            clear htf hbf hof hnf hCf hgf hb4
            go_wp2
            refine bodyPost_ret (v := .agg #[.int .i64 (n : Int), .slice A n c]) (by simp [results, Tryd.results63, go_sem, c00, c01]) rfl ⟨n, xs, A, c, hn, HTF.out, rfl, ?_, ?_, ?_⟩
            · exact (HOF.out.mono (by have := HZ.out; omega)).stored _ _
            · exact (HCF.out.setCell (q := ⟨w.heap.size, 0, none⟩) (by show w.heap.size ≠ p; omega) h0W _).setCell (q := ⟨w.heap.size, 1, none⟩) (by show w.heap.size ≠ p; omega) h0W _
            · exact grown_new (grown_new (ext_grown HE.out HGF.out) (q := ⟨w.heap.size, 0, none⟩) (Nat.le_refl _) _) (q := ⟨w.heap.size, 1, none⟩) (Nat.le_refl _) _
-- spec.MakeTour
theorem makeTour_any (A : Option Addr) (n c : Nat) (bs : List Int) (m most : Nat) (w : World) (h : Bts w A n c bs) (hm : m ≤ 1000) (h1 : 2 ≤ most) (h8 : most ≤ 8) :
    Calls Tryd.prog 20 #[.slice A n c, .int .i64 (m : Int), .int .i64 (most : Int)] w fun e w' => ∃ k xs B d, (1 ≤ k ∧ k ≤ most) ∧ tourOk (k : Int) xs ∧ e = .returned (.agg #[.int .i64 (k : Int), .slice B k d]) ∧ OwI w' w.heap.size B k d xs ∧ Ext w w' := by
  obtain ⟨W, hW⟩ : ∃ W : World, W = w.alloc (.cells #[.int .i64 0, .slice none 0 0] 26) := ⟨_, rfl⟩
  have HE := hide (show Ext w W by rw [hW]; exact Ext.one _ _)
  have HZ := hide (show W.heap.size = w.heap.size + 1 by rw [hW]; simp)
  have HB := hide (show W.heap[w.heap.size]? = some (.cells #[.int .i64 0, .slice none 0 0] 26 (0, 0)) by rw [hW]; exact heap_new w _)
  have C := hide (l32New_any A n c bs m W (h.ext HE.out) hm)
  have HW := hide hW
  have e1 : min (most : Int) 8 = (most : Int) := by omega
  have e2 : ¬ (most : Int) ≤ 1 := by omega
  clear h hW
  go_enter Tryd.func20, Tryd.ntmps20
  go_wp2_with fail
  rw [← HW.out]
  refine C.out.mono ?_
  rintro e w1 ⟨p, rfl, hC1⟩
  have HC1 := hide hC1
  clear hC1
  have CD := hide (l05Draw_any W w1 p most HC1.out (by omega) h8)
  go_wp2_with fail
  refine CD.out.mono ?_
  rintro e w2 ⟨k, xs, B, d, hk, ht, rfl, ho, hC2, hg2⟩
  have HT := hide ht
  have HO := hide ho
  have HX := hide hC2.old.1
  have hz1 := HC1.out.old.1.size
  obtain ⟨c00, c01, f00, f01, s0⟩ := two_cells HX.out HB.out
  clear ht ho hC2 hg2 CD
  go_wp2
  refine bodyPost_ret (v := .agg #[.int .i64 (k : Int), .slice B k d]) (by simp [results, Tryd.results20, go_sem, c00, c01]) rfl ⟨k, xs, B, d, hk, HT.out, rfl, ?_, ((HE.out.trans HX.out).setCell (p := ⟨w.heap.size, 0, none⟩) (Nat.le_refl _) _).setCell (p := ⟨w.heap.size, 1, none⟩) (Nat.le_refl _) _⟩
  exact (HO.out.mono (by have := HZ.out; omega)).stored _ _

end Go.Proofs.YtbaljgdepicigaaDoor
