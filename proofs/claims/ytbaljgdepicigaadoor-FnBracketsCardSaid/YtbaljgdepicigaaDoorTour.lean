/-
  Words and contracts on tours: the laws' helpers, who beats whom, is a tour valid.
-/
import Derived.Laws.ShiftsVar
import Derived.Deep.RegionHeld3
import Derived.Test.YtbaljgdepicigaaDoorBase
import Derived.Test.YtbaljgdepicigaaDoorMgA
import Derived.Test.YtbaljgdepicigaaDoorLib
import Derived.Test.YtbaljgdepicigaaDoorAid
import Derived.Test.YtbaljgdepicigaaDoorGrid
import Derived.Test.YtbaljgdepicigaaDoorLibF
namespace Go.Proofs.YtbaljgdepicigaaDoor
open Go.RowKit
set_option linter.unusedVariables false

-- words
/-- A new tour comes back. -/
def RetT (w : World) (s : Int) (xs : List Int) (e : Ending) (w' : World) : Prop := ∃ A c, e = .returned (.agg #[.int .i64 s, .slice A xs.length c]) ∧ OwI w' w.heap.size A xs.length c xs ∧ Ext w w'
theorem heap_new (w : World) (o : Obj) : (w.alloc o).heap[w.heap.size]? = some o := heap_alloc_new w o
theorem heap_old {w : World} {o x : Obj} {k : Nat} (h : w.heap[k]? = some x) : (w.alloc o).heap[k]? = some x :=
  ((Ext.one w o).block (Array.getElem?_eq_some_iff.1 h).1).trans h
theorem two_cells {a b : World} {k : Nat} {x y : Value} {t : TypeId} (h : Ext a b) (hb : a.heap[k]? = some (.cells #[x, y] t (0, 0))) :
    b.cell? ⟨k, 0, none⟩ = some x ∧ b.cell? ⟨k, 1, none⟩ = some y ∧ b.frozen? ⟨k, 0, none⟩ = false ∧ b.frozen? ⟨k, 1, none⟩ = false ∧ k < b.heap.size := by
  have hk := (Array.getElem?_eq_some_iff.1 hb).1
  have hb2 := (h.block hk).trans hb
  have hs := h.size
  refine ⟨?_, ?_, ?_, ?_, by omega⟩
  · rw [cell_of_row _ _ 0 _ _ _ hb2]; rfl
  · rw [cell_of_row _ _ 1 _ _ _ hb2]; rfl
  · simp [World.frozen?, hb2]
  · simp [World.frozen?, hb2]
theorem Only.get {l u : Nat} {a b : World} (h : Only l u a b) {k o : Nat} {v : Value} (hc : a.cell? ⟨k, o, none⟩ = some v) (hk : k < l ∨ u ≤ k) : b.cell? ⟨k, o, none⟩ = some v :=
  (World.cell?_of_block (h.block k (World.block_lt_of_cell? a ⟨k, o, none⟩ hc) (by omega))).trans hc
-- beats
theorem tour_box {w : World} {s : Int} {A : Option Addr} {n c : Nat} {xs : List Int} {t : TypeId} (h : Ints w A n c xs) : Ints (w.alloc (.cells #[.int .i64 s, .slice A n c] t)) A n c xs := h.ext (Ext.one _ _)
theorem pow_pos2 (n : Nat) : (1 : Int) ≤ 2 ^ n := by
  have h2 : 0 < (2 : Nat) ^ n := Nat.pow_pos (by omega)
  have h3 : ((2 ^ n : Nat) : Int) = (2 : Int) ^ n := by simp
  omega
theorem shr_bound2 {m : Int} (h0 : 0 ≤ m) (a : Nat) : 0 ≤ m / 2 ^ a ∧ m / 2 ^ a ≤ m := by
  have := pow_pos2 a
  exact ⟨Int.ediv_nonneg h0 (by omega), Int.ediv_le_self _ h0⟩
theorem and_bit2 {m : Int} (h0 : 0 ≤ m) (h1 : m ≤ 9223372036854775807) (a : Nat) : bits BinOp.and IntKind.i64 (m / 2 ^ a) 1 = bitAt m a := by
  have := shr_bound2 h0 a
  exact and_one_i64 _ this.1 (by omega)
-- beats both iBeats
theorem iBeats_any (s : Int) (A : Option Addr) (n c : Nat) (xs : List Int) (a b : Nat) (w : World) (h : Ints w A n c xs) (ha : a < n) (hb : b < 64) (h0 : ∀ x ∈ xs, 0 ≤ x) :
    Calls Tryd.prog 68 #[.agg #[.int .i64 s, .slice A n c], .int .i64 (a : Int), .int .i64 (b : Int)] w fun e w' => e = .returned (.bool (decide (bts xs a b))) ∧ Ext w w' := by
  have hle := h.le
  have hmx := h.max
  obtain ⟨bl, off, x, rfl, hbl, hx, wx, hc⟩ := (h.ext (Ext.one w (.cells #[.int .i64 s, .slice A n c] 26))).get ha
  have hx0 := h0 x (List.mem_of_getElem? hx)
  have hxm := wx.2
  have HB := hide (and_bit2 hx0 hxm b)
  have HR := hide (show bts xs a b ↔ bitAt x b = 1 by unfold bts; rw [List.getD, hx]; rfl)
  have hsb := shr_bound2 hx0 b
  clear hx h0 h
  go_enter Tryd.func68, Tryd.ntmps68
  go_wp2
  go_ret
  exact ⟨ret_bool (by rw [HB.out, Bool.eq_iff_iff, decide_eq_true_eq, HR.out]; simp), Ext.one _ _⟩
-- has
theorem has_any (s : Int) (A : Option Addr) (n c : Nat) (a : Int) (w : World) (hs : 0 ≤ s ∧ s ≤ 100) :
    Calls Tryd.prog 47 #[.agg #[.int .i64 s, .slice A n c], .int .i64 a] w fun e w' => e = .returned (.bool (decide (0 ≤ a ∧ a ≤ s - 1))) ∧ Ext w w' := by
  go_enter Tryd.func47, Tryd.ntmps47
  go_wp2_with (go_at_call 44; refine (within_any _ _ _ _).mono ?_; rintro e w' ⟨rfl, rfl⟩)
  go_ret
  exact ⟨ret_bool (by simp), Ext.one _ _⟩
-- impl.TourOk
theorem within_w (n lo hi : Int) (b : Bool) (hb : decide (lo ≤ n ∧ n ≤ hi) = b) (w : World) :
    Calls Tryd.prog 44 #[.int .i64 n, .int .i64 lo, .int .i64 hi] w fun e w' => e = .returned (.bool b) ∧ w' = w :=
  (within_any n lo hi w).mono fun _ _ ⟨h1, h2⟩ => ⟨by rw [h1, hb], h2.symm⟩
theorem shl_one (n : Nat) (h : n ≤ 8) : wrap64 (2 ^ n) = 2 ^ n := by
  have := pow_le_256 h
  have := pow_pos2 n
  unfold wrap64; omega
theorem iTourOk_any (s : Int) (A : Option Addr) (n c : Nat) (xs : List Int) (w : World) (h : Ints w A n c xs) :
    Calls Tryd.prog 43 #[.agg #[.int .i64 s, .slice A n c]] w fun e w' => e = .returned (.bool (decide (tourOk s xs))) ∧ Ext w w' := by
  have HL := hide h.len
  have hle := h.le
  have hmx := h.max
  have HI := hide h
  have HE0 := hide (Ext.one w (.cells #[.int .i64 s, .slice A n c] 26))
  clear h
  by_cases h1 : 1 ≤ s ∧ s ≤ 8
  · by_cases h2 : (n : Int) = s
    · subst h2
      have hpw := pow_le_256 (n := n) (by omega)
      have hpw1 := pow_pos2 n
      have HW : Hid (IntKind.i64.wrap (IntKind.i64.wrap (2 ^ n) - 1) = 2 ^ n - 1) := hide (by rw [IntKind.wrap_i64, IntKind.wrap_i64]; omega)
      clear hpw hpw1
      have c0 : (w.alloc (.cells #[.int .i64 (n : Int), .slice A n c] 26)).cell? ⟨w.heap.size, 0, none⟩ = some (.int .i64 (n : Int)) := by simp
      have c1 : (w.alloc (.cells #[.int .i64 (n : Int), .slice A n c] 26)).cell? ⟨w.heap.size, 1, none⟩ = some (.slice A n c) := by simp
      by_cases h3 : ∀ x ∈ xs, 0 ≤ x ∧ x ≤ 2 ^ n - 1
      · have HD := hide (show decide (∀ x ∈ xs, 0 ≤ x ∧ x ≤ IntKind.i64.wrap (IntKind.i64.wrap (2 ^ n) - 1)) = true by rw [HW.out]; exact decide_eq_true h3)
        have H3 := hide h3
        have HX0 := hide (fun x hx => (h3 x hx).1)
        clear h3
        go_enter Tryd.func43, Tryd.ntmps43
        go_wp2_with fail
        go_region_held3 (fun w' => Ext (w.alloc (.cells #[.int .i64 (n : Int), .slice A n c] 26)) w' ∧ w'.cell? ⟨w.heap.size, 0, none⟩ = some (.int .i64 (n : Int)) ∧ w'.cell? ⟨w.heap.size, 1, none⟩ = some (.slice A n c))
          (first | exact ⟨Ext.refl _, c0, c1⟩ | exact ⟨(Ext.refl _).drew, c0, c1⟩ | (refine ⟨Ext.trans (And.left (by assumption)) hE1, ?_, ?_⟩; exact hE1.get (And.left (And.right (by assumption))); exact hE1.get (And.right (And.right (by assumption)))))
          (first | (go_at_call 44; refine (within_any _ _ _ _).mono ?_; rintro e w' ⟨rfl, rfl⟩) | (go_at_call 52; refine (allWithin_any _ _ _ xs _ _ _ (HI.out.ext (HE0.out.trans (And.left (by assumption))))).mono ?_; rw [HD.out]; rintro e w1 ⟨rfl, hE1⟩))
        clear hE1 c0 c1
        obtain ⟨hE1, d0, d1⟩ : Ext (w.alloc (.cells #[.int .i64 (n : Int), .slice A n c] 26)) w1 ∧ w1.cell? ⟨w.heap.size, 0, none⟩ = some (.int .i64 (n : Int)) ∧ w1.cell? ⟨w.heap.size, 1, none⟩ = some (.slice A n c) := by assumption
        have HE1 := hide (HE0.out.trans hE1)
        have D0 := hide d0; have D1 := hide d1
        clear hE1 HD
        generalize IntKind.i64.wrap (IntKind.i64.wrap (2 ^ n) - 1) = g2
        generalize IntKind.i64.wrap (2 ^ n) = g1
        go_wp2
        go_loopw [29] (fun i wr => ∃ a : Nat, a ≤ n ∧ i = .int .i64 a ∧ Hid (tourTo xs a) ∧ Ext w1 wr) (fun i _ => n - (intOf i).toNat)
        case atStart => exact ⟨0, Nat.zero_le _, rfl, hide (fun a ha => absurd ha (Nat.not_lt_zero _)), Ext.refl _⟩
        case round =>
          obtain ⟨a, ha, rfl, HT, hE⟩ := hrel
          clear d0 d1
          by_cases hlt : a < n
          · have HE := hide hE; clear hE
            go_wp2
            obtain ⟨w0, rfl⟩ : ∃ w0 : World, w0 = wr := ⟨_, rfl⟩
            go_loopw [33] (fun i wr => ∃ b : Nat, b ≤ a ∧ i = .int .i64 b ∧ Hid (∀ k, k < b → (bts xs a k ↔ ¬ bts xs k a)) ∧ Ext w0 wr) (fun i _ => a - (intOf i).toNat)
            case atStart => exact ⟨0, Nat.zero_le _, rfl, hide (fun k hk => absurd hk (Nat.not_lt_zero _)), Ext.refl _⟩
            case round =>
              obtain ⟨b, hb, rfl, HB, hE2⟩ := hrel
              have e0 := hE2.get (HE.out.get D0.out)
              have e1 := hE2.get (HE.out.get D1.out)
              have HE2 := hide (HE.out.trans hE2); have HEr := hide hE2; clear hE2
              have HIr := hide (HI.out.ext (HE1.out.trans HE2.out))
              by_cases hltb : b < a
              · by_cases hab : bts xs a b ↔ ¬ bts xs b a
                · have HAB := hide hab
                  have HQ : Hid ((decide (bts xs a b) == decide (bts xs b a)) = false) := hide (by by_cases x : bts xs a b <;> by_cases y : bts xs b a <;> simp_all)
                  clear hab
                  go_wp2_with fail
                  go_region_held3 (fun w' => Ext wr w' ∧ w'.cell? ⟨w.heap.size, 0, none⟩ = some (.int .i64 (n : Int)) ∧ w'.cell? ⟨w.heap.size, 1, none⟩ = some (.slice A n c))
                    (first | exact ⟨Ext.refl _, e0, e1⟩ | exact ⟨(Ext.refl _).drew, e0, e1⟩ | (refine ⟨Ext.trans (And.left (by assumption)) hE3, ?_, ?_⟩; exact hE3.get (And.left (And.right (by assumption))); exact hE3.get (And.right (And.right (by assumption)))))
                    ((go_at_call 68; refine (iBeats_any _ _ _ _ xs _ _ _ (HIr.out.ext (And.left (by assumption))) (by omega) (by omega) HX0.out).mono ?_; rintro e w9 ⟨rfl, hE3⟩))
                  all_goals
                    obtain ⟨hEx, _, _⟩ : Ext wr w9 ∧ w9.cell? ⟨w.heap.size, 0, none⟩ = some (.int .i64 (n : Int)) ∧ w9.cell? ⟨w.heap.size, 1, none⟩ = some (.slice A n c) := by assumption
                    have HEx := hide hEx; clear hEx
                    rw [HQ.out]
                    go_wp2
                    go_roundw
                    case rel => exact ⟨b + 1, by omega, by go_num, hide (upTo_succ HB.out HAB.out), HEr.out.trans HEx.out⟩
                    case measure => (simp [intOf] <;> omega)
                · have HNT := hide (show ¬ tourOk (n : Int) xs from fun ht => hab ((ht.2.2.2 a (by have := HL.out; omega)).1 b hltb))
                  have HQ : Hid ((decide (bts xs a b) == decide (bts xs b a)) = true) := hide (by by_cases x : bts xs a b <;> by_cases y : bts xs b a <;> simp_all)
                  clear hab
                  go_wp2_with fail
                  go_region_held3 (fun w' => Ext wr w' ∧ w'.cell? ⟨w.heap.size, 0, none⟩ = some (.int .i64 (n : Int)) ∧ w'.cell? ⟨w.heap.size, 1, none⟩ = some (.slice A n c))
                    (first | exact ⟨Ext.refl _, e0, e1⟩ | exact ⟨(Ext.refl _).drew, e0, e1⟩ | (refine ⟨Ext.trans (And.left (by assumption)) hE3, ?_, ?_⟩; exact hE3.get (And.left (And.right (by assumption))); exact hE3.get (And.right (And.right (by assumption)))))
                    ((go_at_call 68; refine (iBeats_any _ _ _ _ xs _ _ _ (HIr.out.ext (And.left (by assumption))) (by omega) (by omega) HX0.out).mono ?_; rintro e w9 ⟨rfl, hE3⟩))
                  all_goals
                    obtain ⟨hEx, _, _⟩ : Ext wr w9 ∧ w9.cell? ⟨w.heap.size, 0, none⟩ = some (.int .i64 (n : Int)) ∧ w9.cell? ⟨w.heap.size, 1, none⟩ = some (.slice A n c) := by assumption
                    have HEx := hide hEx; clear hEx
                    rw [HQ.out]
                    go_wp2
                    go_ret
                    exact ⟨ret_bool (by symm; rw [decide_eq_false_iff_not]; exact HNT.out), (HE1.out.trans HE2.out).trans HEx.out⟩
              · have hke : b = a := by omega
                subst hke
                by_cases haa : bts xs b b
                · have HAA := hide (decide_eq_true haa)
                  have HNT := hide (show ¬ tourOk (n : Int) xs from fun ht => (ht.2.2.2 b (by have := HL.out; omega)).2 haa)
                  clear haa
                  go_wp2_with ((go_at_call 68; refine (iBeats_any _ _ _ _ xs _ _ _ HIr.out (by omega) (by omega) HX0.out).mono ?_; rw [HAA.out]; rintro e w9 ⟨rfl, hE3⟩))
                  go_ret
                  exact ⟨ret_bool (by symm; rw [decide_eq_false_iff_not]; exact HNT.out), (HE1.out.trans HE2.out).trans hE3⟩
                · have HAA := hide (decide_eq_false haa)
                  have HNA := hide haa
                  clear haa
                  go_wp2_with ((go_at_call 68; refine (iBeats_any _ _ _ _ xs _ _ _ HIr.out (by omega) (by omega) HX0.out).mono ?_; rw [HAA.out]; rintro e w9 ⟨rfl, hE3⟩))
                  go_roundw
                  case rel => exact ⟨b + 1, by omega, by go_num, hide (tourTo_succ HT.out HB.out HNA.out), HE2.out.trans hE3⟩
                  case measure => (simp [intOf] <;> omega)
          · have hke : a = n := by omega
            subst hke
            have HE := hide hE; clear hE
            go_wp2
            go_ret
            exact ⟨ret_bool (by symm; rw [decide_eq_true_eq]; exact ⟨h1, by have := HL.out; omega, by rw [HL.out]; exact H3.out, by rw [HL.out]; exact HT.out⟩), HE1.out.trans HE.out⟩
      · have HD := hide (show decide (∀ x ∈ xs, 0 ≤ x ∧ x ≤ IntKind.i64.wrap (IntKind.i64.wrap (2 ^ n) - 1)) = false by rw [HW.out]; exact decide_eq_false h3)
        have HNT := hide (show ¬ tourOk (n : Int) xs from fun ht => h3 (by have := ht.2.2.1; rwa [HL.out] at this))
        clear h3
        go_enter Tryd.func43, Tryd.ntmps43
        go_wp2_with fail
        go_region_held3 (fun w' => Ext (w.alloc (.cells #[.int .i64 (n : Int), .slice A n c] 26)) w' ∧ w'.cell? ⟨w.heap.size, 0, none⟩ = some (.int .i64 (n : Int)) ∧ w'.cell? ⟨w.heap.size, 1, none⟩ = some (.slice A n c))
          (first | exact ⟨Ext.refl _, c0, c1⟩ | exact ⟨(Ext.refl _).drew, c0, c1⟩ | (refine ⟨Ext.trans (And.left (by assumption)) hE1, ?_, ?_⟩; exact hE1.get (And.left (And.right (by assumption))); exact hE1.get (And.right (And.right (by assumption)))))
          (first | (go_at_call 44; refine (within_any _ _ _ _).mono ?_; rintro e w' ⟨rfl, rfl⟩) | (go_at_call 52; refine (allWithin_any _ _ _ xs _ _ _ (HI.out.ext (HE0.out.trans (And.left (by assumption))))).mono ?_; rw [HD.out]; rintro e w1 ⟨rfl, hE1⟩))
        clear hE1 c0 c1
        obtain ⟨hE1, d0, d1⟩ : Ext (w.alloc (.cells #[.int .i64 (n : Int), .slice A n c] 26)) w1 ∧ w1.cell? ⟨w.heap.size, 0, none⟩ = some (.int .i64 (n : Int)) ∧ w1.cell? ⟨w.heap.size, 1, none⟩ = some (.slice A n c) := by assumption
        have HE1 := hide (HE0.out.trans hE1)
        clear hE1 d0 d1
        go_wp2
        go_ret
        exact ⟨ret_bool (by symm; rw [decide_eq_false_iff_not]; exact HNT.out), HE1.out⟩
    · have hb2 : ((n : Int) != s) = true := by simpa using h2
      have HNT := hide (show ¬ tourOk s xs from fun ht => h2 (by have := ht.2.1; rwa [HL.out] at this))
      clear h2
      have HD := hide (decide_eq_true h1)
      go_enter Tryd.func43, Tryd.ntmps43
      go_wp2
      go_quiet (first | (go_at_call 44; exact Calls.quiet_of_same (within_w _ _ _ true HD.out _)))
      go_wp2
      go_ret
      exact ⟨ret_bool (by symm; rw [decide_eq_false_iff_not]; exact HNT.out), HE0.out.drewN _⟩
  · have HNT := hide (show ¬ tourOk s xs from fun ht => h1 ht.1)
    have HD := hide (decide_eq_false h1)
    clear h1
    go_enter Tryd.func43, Tryd.ntmps43
    go_wp2
    go_quiet (first | (go_at_call 44; exact Calls.quiet_of_same (within_w _ _ _ false HD.out _)))
    go_wp2
    go_ret
    exact ⟨ret_bool (by symm; rw [decide_eq_false_iff_not]; exact HNT.out), HE0.out.drewN _⟩

end Go.Proofs.YtbaljgdepicigaaDoor
