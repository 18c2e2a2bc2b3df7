/-
  Contracts of the functions that count pairings, and find the least sum of differences.
-/
import Derived.Test.YtbaljgdepicigaaBase
import Derived.Test.YtbaljgdepicigaaMathA
import Derived.Test.YtbaljgdepicigaaMathD
import Derived.Test.YtbaljgdepicigaaLib
import Derived.Test.YtbaljgdepicigaaAid
import Derived.Test.YtbaljgdepicigaaStep
import Derived.Test.YtbaljgdepicigaaGrid
import Derived.Test.YtbaljgdepicigaaLibF
import Derived.Test.YtbaljgdepicigaaMathB
import Derived.Test.YtbaljgdepicigaaMathU
import Derived.Test.YtbaljgdepicigaaMathS
import Derived.Test.YtbaljgdepicigaaMathP
import Derived.Test.YtbaljgdepicigaaDblB
import Derived.Test.YtbaljgdepicigaaSwiss
import Derived.Test.YtbaljgdepicigaaSwissB
import Derived.Test.YtbaljgdepicigaaRangeA
import Derived.Test.YtbaljgdepicigaaFillA
import Derived.Test.YtbaljgdepicigaaFillB
import Derived.Test.YtbaljgdepicigaaFillC
namespace Go.Proofs.Ytbaljgdepicigaa
open Go.RowKit
set_option linter.unusedVariables false
set_option maxRecDepth 100000
attribute [local go_sem] Oper.semAt_some

-- words
theorem fillL_len (order ms : List Int) (ho : order.length ≤ 8) : ∀ (k : Nat) (ps : List Int), (fillL order ms k ps).length ≤ 8 ^ k := by
  have key : ∀ (l : List Int) (f : Int → List (List Int)) (m : Nat), (∀ x ∈ l, (f x).length ≤ m) → (l.flatMap f).length ≤ l.length * m := by
    intro l f m
    induction l with
    | nil => simp
    | cons x l ih =>
      intro h
      have h1 := h x (by simp)
      have h2 := ih fun y hy => h y (by simp [hy])
      rw [List.flatMap_cons, List.length_append, List.length_cons, Nat.succ_mul]
      omega
  intro k
  induction k with
  | zero => intro ps; simp [fillL]
  | succ k ih =>
    intro ps
    simp only [fillL]
    have hp : 1 ≤ 8 ^ k := Nat.one_le_pow _ _ (by omega)
    split
    · rw [Nat.pow_succ]; simp; omega
    · refine Nat.le_trans (key _ _ (8 ^ k) fun x _ => ?_) ?_
      · unfold fillStep
        split
        · simp
        · exact ih _
      · rw [Nat.pow_succ, Nat.mul_comm]
        exact Nat.mul_le_mul_left _ (by rw [List.length_drop]; omega)
theorem ordOf_upto (n : Nat) : ordOf n (upto n) := by
  refine ⟨?_, upto_len n, fun x hx => ?_, fun i hi => ?_⟩
  · unfold upto
    rw [List.nodup_iff_pairwise_ne, List.pairwise_map]
    exact (List.nodup_iff_pairwise_ne.1 List.nodup_range).imp fun h e => h (by omega)
  · simp [upto] at hx
    obtain ⟨i, hi, rfl⟩ := hx
    omega
  · simp [upto]; exact ⟨i, hi, rfl⟩
def startP (n : Nat) : List Int := List.replicate n (-1)
def pairingsO (order ms : List Int) : List (List Int) := fillL order ms (ms.length + 1) (startP ms.length)
def countP (xs ms : List Int) : Int := if swissOk xs ms then ((pairingsO (upto ms.length) ms).length : Int) else -1
theorem swissOk_n {xs ms : List Int} (h : swissOk xs ms) : (ms.length = 2 ∨ ms.length = 4 ∨ ms.length = 6 ∨ ms.length = 8) ∧ ∀ m ∈ ms, 0 ≤ m ∧ m ≤ 255 := by
  have h1 := h.1
  have h2 := h.2.1
  have hn : ms.length = 2 ∨ ms.length = 4 ∨ ms.length = 6 ∨ ms.length = 8 := by have := h1.1; have := h1.2.1; omega
  refine ⟨hn, fun m hm => ?_⟩
  have h3 := h.2.2.1 m hm
  have h4 := pow_small (n := ms.length) (by omega)
  omega
-- impl.CountPairings
set_option maxHeartbeats 1000000 in
theorem iCount_any (A : Option Addr) (n c : Nat) (xs : List Int) (A2 : Option Addr) (n2 c2 : Nat) (ms : List Int) (w : World) (h : Ints w A n c xs) (h2 : Ints w A2 n2 c2 ms) :
    Calls Try.prog 15 #[.slice A n c, .slice A2 n2 c2] w fun e w' => e = .returned (.int .i64 (countP xs ms)) ∧ Ext w w' := by
  have HL := hide h.len
  have HL2 := hide h2.len
  have HI := hide h
  have HI2 := hide h2
  have hle := h.le
  have hmx := h.max
  clear h h2
  by_cases hs : swissOk xs ms
  · have hsn := swissOk_n hs
    have hn8 : n ≤ 8 := by have := HL.out; have := hs.1.1; omega
    have hnn : n2 = n := by have := HL.out; have := HL2.out; have := hs.2.1; omega
    subst hnn
    have HNV := hide hsn.1
    have HMB := hide hsn.2
    rw [HL2.out] at HNV
    have HF := hide (show countP xs ms = ((fillL (upto n2) ms (n2 + 1) (List.replicate n2 (-1))).length : Int) by unfold countP; rw [if_pos hs]; unfold pairingsO startP; rw [HL2.out])
    have HLB := hide (fillL_len (upto n2) ms (by rw [upto_len]; exact hn8) (n2 + 1) (List.replicate n2 (-1)))
    have HS := hide hs
    clear hsn hs
    refine calls_marks Try.func15 rfl ?_
    simp only [Try.ntmps15, List.size_toArray, List.length_cons, List.length_nil, Nat.reduceAdd, Nat.reduceSub, Array.replicate_succ, Array.replicate_zero, List.push_toArray, List.append_toArray, List.nil_append, List.cons_append]
    go_wp2_with (first
      | (go_at_call 18; refine (iSwissOk_any _ _ _ xs _ _ _ ms _ HI.out HI2.out).mono ?_; rw [decide_eq_true HS.out]; rintro e w1 ⟨rfl, hE1⟩)
      | (go_at_call 84; refine (indices_any n2 _ (by omega)).mono ?_; rintro e w2 ⟨B, d, rfl, hoB, hE2⟩)
      | (go_at_call 82; refine (pairings_any _ _ _ _ _ _ _).mono ?_; rintro e w3 ⟨bO, bM, rfl, hbO, hbM, hcO, hcM, hE3⟩))
    rw [upto_len] at hoB hcO
    have hz1 := hE1.size
    have hz2 := hE2.size
    have hz3 := hE3.size
    simp only [World.size_alloc] at hz2
    have hbs := hoB.block
    simp only [World.size_alloc] at hbs
    have hn0 : 0 < n2 := by have := HNV.out; omega
    have HA2 := hide (show ∀ k, A2.map (·.block) = some k → k < w.heap.size from fun k hk => by
      obtain ⟨b, off, x, e, hb, _⟩ := HI2.out.get hn0
      rw [e] at hk; cases hk; exact hb)
    have HX2 := hide (hE1.trans ((Ext.one w1 _).trans hE2))
    have HX3 := hide (HX2.out.trans hE3)
    have hc0 : (w1.alloc (.cells #[.int .i64 0] 3)).cell? ⟨w1.heap.size, 0, none⟩ = some (.int .i64 0) := by simp
    have hf0 : (w1.alloc (.cells #[.int .i64 0] 3)).frozen? ⟨w1.heap.size, 0, none⟩ = false := by simp
    have hcw := (hE2.trans hE3).get hc0
    have hfw := ((hE2.trans hE3).frozen (p := ⟨w1.heap.size, 0, none⟩) (by simp)).trans hf0
    have HB3 := hide (hoB.ints.ext hE3)
    have HL135 : (fillL (upto n2) ms (n2 + 1) (List.replicate n2 (-1))).length ≤ 134217728 := Nat.le_trans HLB.out (Nat.le_trans (Nat.pow_le_pow_right (by omega) (show n2 + 1 ≤ 9 by omega)) (by decide))
    have G := pairings_gives (lo := w1.heap.size) (hi := w1.heap.size + 1) w3 HNV.out (ordOf_upto n2) HL2.out HMB.out hcO hcM HB3.out (HI2.out.ext HX3.out) (by omega) (by omega) (by omega) (fun k hk => by have := (hbs k hk).1; omega) (fun k hk => by have := HA2.out k hk; omega)
    have HG := hide G
    clear G hoB hE1 hE2 hE3 hbs hc0 hf0
    refine wp_range HG.out rfl (enters_of Try.func150 (by kernel_rfl) rfl) rfl (by omega)
      (fun pre W => W.cell? ⟨w1.heap.size, 0, none⟩ = some (.int .i64 (pre.length : Int)) ∧ W.frozen? ⟨w1.heap.size, 0, none⟩ = false ∧ Hid (Ext w W))
      (fun _ _ _ => False)
      (fun pre Wa Wb ⟨h1, h2, h3⟩ hb => ⟨(hb.cell (p := ⟨w1.heap.size, 0, none⟩) (by show w1.heap.size < _; omega)).trans h1, (hb.frozen (p := ⟨w1.heap.size, 0, none⟩) (by show w1.heap.size < _; omega)).trans h2, hide (Below.trans h3.out (hb.mono HX3.out.size))⟩)
      (fun _ _ _ _ h _ => h) ⟨hcw, hfw, hide HX3.out⟩ ?body ?done ?stop
    case body =>
      rintro l m pre x A9 c9 Wa Wb ⟨h1, h2, h3⟩ hpre hx hsz
      have hlen : pre.length + 1 ≤ 134217728 := by have := hpre.length_le; simp at this; omega
      have HPRE := hide hpre
      have HXX := hide hx
      clear hpre hx
      gi_wp2
      refine ⟨trivial, ?_⟩
      gi_wp2
      exact ⟨only_store _ _ (Nat.le_refl _) (Nat.lt_succ_self _), by rw [show (((pre ++ [x]).length : Nat) : Int) = (pre.length : Int) + 1 by simp]; exact World.cell?_setCell_same' _ _ _ (by rw [h1]; rfl), by rw [World.frozen?_setCell]; exact h2, hide (h3.out.setCell (p := ⟨w1.heap.size, 0, none⟩) hz1 _)⟩
    case done =>
      rintro D W ⟨h1, h2, h3⟩ hD hd
      have HD := hide hd
      clear hd
      go_wp2
      refine ⟨by simp, .inl ⟨_, _, rfl, run_takeDeferred HD.out, ?_⟩⟩
      refine ⟨_, results_tmp rfl _ _ _, ?_, ?_⟩
      · exact ret_int HF.out.symm
      exact Below.trans h3.out (below_putObj _ _ (Nat.le_trans HX3.out.size hD))
    case stop => exact fun _ _ _ _ _ _ h => h.elim
  · have HF := hide (show countP xs ms = -1 from if_neg hs)
    have HS := hide hs
    clear hs
    go_enter Try.func15, Try.ntmps15
    go_wp2_with (go_at_call 18; refine (iSwissOk_any _ _ _ xs _ _ _ ms _ HI.out HI2.out).mono ?_; rw [decide_eq_false HS.out]; rintro e w1 ⟨rfl, hE1⟩)
    go_ret
    exact ⟨ret_int HF.out.symm, hE1⟩

end Go.Proofs.Ytbaljgdepicigaa
