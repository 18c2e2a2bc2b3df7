/-
  The reference's count of pairings and its least sum of differences.
-/
import Derived.Deep.RegionLaw
import Derived.Laws.ShiftsVar
import Derived.Test.YtbaljgdepicigaaBase
import Derived.Test.YtbaljgdepicigaaMathA
import Derived.Test.YtbaljgdepicigaaMathD
import Derived.Test.YtbaljgdepicigaaLib
import Derived.Test.YtbaljgdepicigaaAid
import Derived.Test.YtbaljgdepicigaaStep
import Derived.Test.YtbaljgdepicigaaGrid
import Derived.Test.YtbaljgdepicigaaLibF
import Derived.Test.YtbaljgdepicigaaMathB
import Derived.Test.YtbaljgdepicigaaMathU
import Derived.Test.YtbaljgdepicigaaMathO
import Derived.Test.YtbaljgdepicigaaMathS
import Derived.Test.YtbaljgdepicigaaMathP
import Derived.Test.YtbaljgdepicigaaDblB
import Derived.Test.YtbaljgdepicigaaSwiss
import Derived.Test.YtbaljgdepicigaaSwissB
import Derived.Test.YtbaljgdepicigaaSortA
import Derived.Test.YtbaljgdepicigaaFillD
import Derived.Test.YtbaljgdepicigaaFillE
namespace Go.Proofs.Ytbaljgdepicigaa
open Go.RowKit
set_option linter.unusedVariables false
set_option maxRecDepth 100000

-- words
theorem ordOf_orderO (xs : List Int) (n : Nat) : ordOf n (orderO xs n) := by
  induction n with
  | zero => exact ⟨by simp [orderO], by simp [orderO], by simp [orderO], fun i hi => absurd hi (Nat.not_lt_zero _)⟩
  | succ n ih =>
    obtain ⟨h1, h2, h3, h4⟩ := ih
    simp only [orderO, insO]
    generalize posO xs (orderO xs n) _ n = p
    have hp : (List.take p (orderO xs n) ++ [(n : Int)] ++ List.drop p (orderO xs n)).Perm ((n : Int) :: orderO xs n) := by
      have := (List.perm_middle (a := (n : Int)) (l₁ := List.take p (orderO xs n)) (l₂ := List.drop p (orderO xs n)))
      rw [List.take_append_drop] at this
      simpa using this
    refine ⟨hp.nodup_iff.2 (List.nodup_cons.2 ⟨fun hm => by have := h3 _ hm; omega, h1⟩), by rw [hp.length_eq]; simp [h2], fun x hx => ?_, fun i hi => hp.mem_iff.2 ?_⟩
    · rcases List.mem_cons.1 (hp.mem_iff.1 hx) with rfl | hx
      · omega
      · have := h3 x hx; omega
    · by_cases e : i = n
      · subst e; simp
      · exact List.mem_cons_of_mem _ (h4 i (by omega))
theorem swissOk_sym {xs ms : List Int} (h : swissOk xs ms) : ∀ a b : Nat, a < ms.length → b < ms.length → bitAt (ms.getD a 0) b = bitAt (ms.getD b 0) a := by
  intro a b ha hb
  rcases Nat.lt_trichotomy a b with hab | hab | hab
  · exact ((h.2.2.2 b hb).2 a hab).symm
  · rw [hab]
  · exact (h.2.2.2 a ha).2 b hab
/-- The reference's list is one of the program's. -/
theorem allL_pairings {xs ms : List Int} (h : swissOk xs ms) : allL ms (ms.length + 1) (orderO xs ms.length) (List.replicate ms.length 0) = pairingsO (orderO xs ms.length) ms := by
  have ho := ordOf_orderO xs ms.length
  have := allL_eq (ms := ms) ho (ms.length + 1) (List.replicate ms.length (-1)) (List.replicate ms.length 0) (partP_start _) (nfree_start _) (by simp) (fun i hi hf => absurd (show (List.replicate ms.length (-1 : Int)).getD i 0 < 0 by simp [List.getD, hi]) hf)
  unfold pairingsO startP
  rw [← this]
  congr 1
  symm
  rw [List.filter_eq_self]
  intro x hx
  have := ho.2.2.1 x hx
  have hx2 : x.toNat < ms.length := by omega
  simp [frP, List.getD, hx2]
theorem pairings_perm {xs ms : List Int} (h : swissOk xs ms) : (pairingsO (upto ms.length) ms).Perm (pairingsO (orderO xs ms.length) ms) :=
  fill_perm (ordOf_upto _) (ordOf_orderO _ _) (swissOk_sym h) (partP_start _) (nfree_start _)
theorem countP_all {xs ms : List Int} (h : swissOk xs ms) : countP xs ms = ((allL ms (ms.length + 1) (orderO xs ms.length) (List.replicate ms.length 0)).length : Int) := by
  unfold countP
  rw [if_pos h, allL_pairings h, (pairings_perm h).length_eq]
-- spec.CountPairings
/-- The call that stands at the top. -/
theorem l24All_top {n cm cl lo Z X : Nat} {Am Al : Option Addr} {ms left : List Int} (W : World) (hn8 : n ≤ 8) (h0 : 0 < n) (hmb : ∀ m ∈ ms, 0 ≤ m ∧ m ≤ 255) (hlb : ∀ x ∈ left, 0 ≤ x ∧ x < (n : Int)) (hnd : left.Nodup)
    (hM : Ints W Am n cm ms) (hL : Ints W Al n cl left) (hZ : W.heap[Z]? = some (.cells (zeroRow n) 3 (0, 0))) (hX : W.heap[X]? = some (.cells #[] 23 (0, 0))) (hlo : lo ≤ X)
    (hdm : Am.map (·.block) ≠ some X) (hdl : Al.map (·.block) ≠ some X) :
    Calls Try.prog 98 #[.slice Am n cm, .slice Al n cl, .slice (some ⟨Z, 0, none⟩) n n, .slice (some ⟨X, 0, none⟩) 0 0] W fun e w' => ∃ A' c', e = .returned (.slice A' (allL ms (n + 1) left (List.replicate n 0)).length c') ∧
      OwG w' lo w'.heap.size A' (allL ms (n + 1) left (List.replicate n 0)).length c' (allL ms (n + 1) left (List.replicate n 0)) ∧ W.grownBy w' (some X) := by
  have hXl : X < W.heap.size := (Array.getElem?_eq_some_iff.1 hX).1
  have hZX : Z ≠ X := fun e => by
    subst e
    rw [hX] at hZ
    simp [zeroRow] at hZ
  have hO : OwG W lo W.heap.size (some ⟨X, 0, none⟩) 0 0 [] := ⟨[], ⟨rfl, Nat.le_refl _, by omega, .inr ⟨X, 0, #[], rfl, hlo, hX, by simp, fun k v hk => by simp at hk⟩⟩, fun k hk => by cases hk; exact hXl, rfl, (fun i x r hx => by simp at hx), (fun i j x y _ hx => by simp at hx)⟩
  have hZI : Ints W (some ⟨Z, 0, none⟩) n n (List.replicate n 0) := by
    refine ⟨⟨by simp, Nat.le_refl _, by omega, fun _ => ⟨Z, 0, rfl, (Array.getElem?_eq_some_iff.1 hZ).1, fun k v hk => ?_⟩⟩, fun x hx => by rw [List.eq_of_mem_replicate hx]; exact ⟨by omega, by omega⟩⟩
    rw [cell_of_row _ _ (0 + k) _ _ _ hZ, Nat.zero_add, ← hk]
    simp [zeroRow, Array.getElem?_replicate, List.getElem?_replicate]
  have h8 : 8 ^ (n + 1) ≤ 134217728 := Nat.le_trans (Nat.pow_le_pow_right (by omega) (show n + 1 ≤ 9 by omega)) (by decide)
  refine (l24All_any Am n cm ms hn8 hmb (n + 1) Al n cl left (some ⟨Z, 0, none⟩) n (List.replicate n 0) (some ⟨X, 0, none⟩) 0 0 [] lo W W (by omega) hn8 hlb hnd hM hL hO (Ext.refl _) hZI (.inl (by simpa using hZX)) (fun h => by omega) (by omega) (.inl (by simpa using hdm)) (.inl (by simpa using hdl)) (by omega)).mono ?_
  rintro e w' ⟨A', c', he, ho, hg, _⟩
  rw [Nat.zero_add] at he ho
  exact ⟨A', c', he, by simpa using ho, hg⟩
-- spec.CountPairings walk
set_option maxHeartbeats 1000000 in
theorem sCount_any (A : Option Addr) (n c : Nat) (xs : List Int) (A2 : Option Addr) (n2 c2 : Nat) (ms : List Int) (w : World) (h : Ints w A n c xs) (h2 : Ints w A2 n2 c2 ms) :
    Calls Try.prog 27 #[.slice A n c, .slice A2 n2 c2] w fun e w' => e = .returned (.int .i64 (countP xs ms)) ∧ Ext w w' := by
  have HL := hide h.len
  have HL2 := hide h2.len
  have HI := hide h
  have HI2 := hide h2
  have hle := h.le
  have hmx := h.max
  clear h h2
  by_cases hs : swissOk xs ms
  · have hsn := swissOk_n hs
    have hn8 : n ≤ 8 := by have := HL.out; have := hs.1.1; omega
    have hnn : n2 = n := by have := HL.out; have := HL2.out; have := hs.2.1; omega
    subst hnn
    have HNV := hide hsn.1
    have HMB := hide hsn.2
    rw [HL2.out] at HNV
    have hn0 : 0 < n2 := by have := HNV.out; omega
    have HF := hide (countP_all hs)
    rw [HL2.out] at HF
    have HOR := hide (ordOf_orderO xs n2)
    have HS := hide hs
    have hmk := run_make_ints n2 (by omega)
    have HLN := hide (allL_len ms (n2 + 1) (orderO xs n2) (List.replicate n2 0) (by rw [orderO_len]; exact hn8))
    have h8 : 8 ^ (n2 + 1) ≤ 134217728 := Nat.le_trans (Nat.pow_le_pow_right (by omega) (show n2 + 1 ≤ 9 by omega)) (by decide)
    clear hsn hs
    go_enter Try.func27, Try.ntmps27
    go_wp2_with (first
      | (go_at_call 97; refine (sSwissOk_any _ _ _ xs _ _ _ ms _ HI.out HI2.out).mono ?_; rw [decide_eq_true HS.out]; rintro e w1 ⟨rfl, hE1⟩; have HE1 := hide hE1; clear hE1))
    have HA2 := hide (show ∀ k, A2.map (·.block) = some k → k < w.heap.size from fun k hk => by
      obtain ⟨b, off, x, e, hb, _⟩ := HI2.out.get hn0
      rw [e] at hk; cases hk; exact hb)
    have TOP := hide (fun (W : World) (Z X : Nat) (B2 : Option Addr) (d2 : Nat) (hE : Ext w W) (hL : Ints W B2 n2 d2 (orderO xs n2)) (hZ : W.heap[Z]? = some (.cells (zeroRow n2) 3 (0, 0))) (hX : W.heap[X]? = some (.cells #[] 23 (0, 0))) (hlo : w.heap.size ≤ X) (hdl : B2.map (·.block) ≠ some X) =>
      l24All_top W hn8 hn0 HMB.out (fun x hx => HOR.out.2.2.1 x hx) HOR.out.1 (HI2.out.ext hE) hL hZ hX hlo (fun e => by have := HA2.out X e; omega) hdl)
    go_region_law (first
      | (go_simp; go_at_call 99; (with_reducible refine (l09_any _ _ _ xs _ (HI.out.ext (HE1.out.drew)) hn8).mono ?_); rintro e w2 ⟨B2, d2, rfl, ho2, hE2⟩; rw [orderO_len] at ho2 ⊢; have HO2 := hide ho2; have hbl := ho2.block; have HE2 := hide ((HE1.out.drew).trans hE2); have hz2 := hE2.size; have hz1 := HE1.out.size; simp only [World.drew] at hbl hz2; clear ho2 hE2)
      | (go_simp; go_at_call 99; (with_reducible refine (l09_any _ _ _ xs _ (HI.out.ext ((HE1.out.alloc (.cells (zeroRow n2) 3)).drew)) hn8).mono ?_); rintro e w2 ⟨B2, d2, rfl, ho2, hE2⟩; rw [orderO_len] at ho2 ⊢; have HO2 := hide ho2; have hbl := ho2.block; have HE2 := hide (((HE1.out.alloc (.cells (zeroRow n2) 3)).drew).trans hE2); have hz2 := hE2.size; have hz1 := HE1.out.size; simp only [World.size_alloc, World.drew] at hbl hz2; have HZ2 := hide (show w2.heap[w1.heap.size]? = some (.cells (zeroRow n2) 3 (0, 0)) from (hE2.block (k := w1.heap.size) (by simp)).trans (heap_alloc_new w1 (.cells (zeroRow n2) 3))); clear ho2 hE2)
      | (go_simp; go_at_call 99; (with_reducible refine (l09_any _ _ _ xs _ (HI.out.ext ((HE1.out.alloc (.cells #[] 23)).drew)) hn8).mono ?_); rintro e w2 ⟨B2, d2, rfl, ho2, hE2⟩; rw [orderO_len] at ho2 ⊢; have HO2 := hide ho2; have hbl := ho2.block; have HE2 := hide (((HE1.out.alloc (.cells #[] 23)).drew).trans hE2); have hz2 := hE2.size; have hz1 := HE1.out.size; simp only [World.size_alloc, World.drew] at hbl hz2; have HX2 := hide (show w2.heap[w1.heap.size]? = some (.cells #[] 23 (0, 0)) from (hE2.block (k := w1.heap.size) (by simp)).trans (heap_alloc_new w1 (.cells #[] 23))); clear ho2 hE2)
      | (go_simp; go_at_call 99; (with_reducible refine (l09_any _ _ _ xs _ (HI.out.ext (((HE1.out.alloc (.cells (zeroRow n2) 3)).alloc (.cells #[] 23)).drew)) hn8).mono ?_); rintro e w2 ⟨B2, d2, rfl, ho2, hE2⟩; rw [orderO_len] at ho2 ⊢; have HO2 := hide ho2; have hbl := ho2.block; have HE2 := hide ((((HE1.out.alloc (.cells (zeroRow n2) 3)).alloc (.cells #[] 23)).drew).trans hE2); have hz2 := hE2.size; have hz1 := HE1.out.size; simp only [World.size_alloc, World.drew] at hbl hz2; have HZ2 := hide (show w2.heap[w1.heap.size]? = some (.cells (zeroRow n2) 3 (0, 0)) from (hE2.block (k := w1.heap.size) (by simp; omega)).trans (((Ext.one (w1.alloc (.cells (zeroRow n2) 3)) _).block (by simp)).trans (heap_alloc_new w1 (.cells (zeroRow n2) 3)))); have HX2 := hide (show w2.heap[w1.heap.size + 1]? = some (.cells #[] 23 (0, 0)) from (hE2.block (k := w1.heap.size + 1) (by simp)).trans (by have := heap_alloc_new (w1.alloc (.cells (zeroRow n2) 3)) (.cells #[] 23); rw [World.size_alloc] at this; exact this)); clear ho2 hE2)
      | (go_simp; go_at_call 99; (with_reducible refine (l09_any _ _ _ xs _ (HI.out.ext (((HE1.out.alloc (.cells #[] 23)).alloc (.cells (zeroRow n2) 3)).drew)) hn8).mono ?_); rintro e w2 ⟨B2, d2, rfl, ho2, hE2⟩; rw [orderO_len] at ho2 ⊢; have HO2 := hide ho2; have hbl := ho2.block; have HE2 := hide ((((HE1.out.alloc (.cells #[] 23)).alloc (.cells (zeroRow n2) 3)).drew).trans hE2); have hz2 := hE2.size; have hz1 := HE1.out.size; simp only [World.size_alloc, World.drew] at hbl hz2; have HZ2 := hide (show w2.heap[w1.heap.size + 1]? = some (.cells (zeroRow n2) 3 (0, 0)) from (hE2.block (k := w1.heap.size + 1) (by simp)).trans (by have := heap_alloc_new (w1.alloc (.cells #[] 23)) (.cells (zeroRow n2) 3); rw [World.size_alloc] at this; exact this)); have HX2 := hide (show w2.heap[w1.heap.size]? = some (.cells #[] 23 (0, 0)) from (hE2.block (k := w1.heap.size) (by simp; omega)).trans (((Ext.one (w1.alloc (.cells #[] 23)) _).block (by simp)).trans (heap_alloc_new w1 (.cells #[] 23)))); clear ho2 hE2)
      | (go_simp; go_at_call 98; (with_reducible refine (TOP.out _ w2.heap.size (w2.heap.size + 1) B2 d2 ((HE2.out.alloc (.cells (zeroRow n2) 3)).alloc (.cells #[] 23)) (HO2.out.ints.ext ((Ext.one w2 (.cells (zeroRow n2) 3)).alloc (.cells #[] 23))) (((Ext.one (w2.alloc (.cells (zeroRow n2) 3)) (.cells #[] 23)).block (by simp)).trans (heap_alloc_new w2 (.cells (zeroRow n2) 3))) (by have := heap_alloc_new (w2.alloc (.cells (zeroRow n2) 3)) (.cells #[] 23); rw [World.size_alloc] at this; exact this) (by omega) (fun e => by have := hbl _ e; omega)).mono ?_); rintro e w3 ⟨A3, c3, rfl, ho3, hg3⟩; have HG3 := hide ho3; have HE3 := hide (Ext.grown (((HE2.out.alloc (.cells (zeroRow n2) 3)).alloc (.cells #[] 23))) hg3 (fun k hk => by cases hk; omega)); clear ho3 hg3)
      | (go_simp; go_at_call 98; (with_reducible refine (TOP.out _ (w2.heap.size + 1) w2.heap.size B2 d2 ((HE2.out.alloc (.cells #[] 23)).alloc (.cells (zeroRow n2) 3)) (HO2.out.ints.ext ((Ext.one w2 (.cells #[] 23)).alloc (.cells (zeroRow n2) 3))) (by have := heap_alloc_new (w2.alloc (.cells #[] 23)) (.cells (zeroRow n2) 3); rw [World.size_alloc] at this; exact this) (((Ext.one (w2.alloc (.cells #[] 23)) (.cells (zeroRow n2) 3)).block (by simp)).trans (heap_alloc_new w2 (.cells #[] 23))) (by omega) (fun e => by have := hbl _ e; omega)).mono ?_); rintro e w3 ⟨A3, c3, rfl, ho3, hg3⟩; have HG3 := hide ho3; have HE3 := hide (Ext.grown (((HE2.out.alloc (.cells #[] 23)).alloc (.cells (zeroRow n2) 3))) hg3 (fun k hk => by cases hk; omega)); clear ho3 hg3)
      | (go_simp; go_at_call 98; (with_reducible refine (TOP.out _ w1.heap.size w2.heap.size B2 d2 (HE2.out.alloc (.cells #[] 23)) (HO2.out.ints.ext (Ext.one w2 (.cells #[] 23))) (((Ext.one w2 (.cells #[] 23)).block (by omega)).trans HZ2.out) (heap_alloc_new w2 (.cells #[] 23)) (by omega) (fun e => by have := hbl _ e; omega)).mono ?_); rintro e w3 ⟨A3, c3, rfl, ho3, hg3⟩; have HG3 := hide ho3; have HE3 := hide (Ext.grown ((HE2.out.alloc (.cells #[] 23))) hg3 (fun k hk => by cases hk; omega)); clear ho3 hg3)
      | (go_simp; go_at_call 98; (with_reducible refine (TOP.out _ w2.heap.size w1.heap.size B2 d2 (HE2.out.alloc (.cells (zeroRow n2) 3)) (HO2.out.ints.ext (Ext.one w2 (.cells (zeroRow n2) 3))) (heap_alloc_new w2 (.cells (zeroRow n2) 3)) (((Ext.one w2 (.cells (zeroRow n2) 3)).block (by omega)).trans HX2.out) (by omega) (fun e => by have := hbl _ e; omega)).mono ?_); rintro e w3 ⟨A3, c3, rfl, ho3, hg3⟩; have HG3 := hide ho3; have HE3 := hide (Ext.grown ((HE2.out.alloc (.cells (zeroRow n2) 3))) hg3 (fun k hk => by cases hk; omega)); clear ho3 hg3)
      | (go_simp; go_at_call 98; (with_reducible refine (TOP.out _ w1.heap.size (w1.heap.size + 1) B2 d2 HE2.out HO2.out.ints HZ2.out HX2.out (by omega) (fun e => by have := hbl _ e; omega)).mono ?_); rintro e w3 ⟨A3, c3, rfl, ho3, hg3⟩; have HG3 := hide ho3; have HE3 := hide (Ext.grown (HE2.out) hg3 (fun k hk => by cases hk; omega)); clear ho3 hg3)
      | (go_simp; go_at_call 98; (with_reducible refine (TOP.out _ (w1.heap.size + 1) w1.heap.size B2 d2 HE2.out HO2.out.ints HZ2.out HX2.out (by omega) (fun e => by have := hbl _ e; omega)).mono ?_); rintro e w3 ⟨A3, c3, rfl, ho3, hg3⟩; have HG3 := hide ho3; have HE3 := hide (Ext.grown (HE2.out) hg3 (fun k hk => by cases hk; omega)); clear ho3 hg3))
    all_goals (
      have hlen : (allL ms (n2 + 1) (orderO xs n2) (List.replicate n2 0)).length ≤ 134217728 := Nat.le_trans HLN.out h8
      go_wp2
      go_ret
      exact ⟨ret_int HF.out.symm, HE3.out⟩)
  · have HF := hide (show countP xs ms = -1 from if_neg hs)
    have HS := hide hs
    clear hs
    go_enter Try.func27, Try.ntmps27
    go_wp2_with (go_at_call 97; refine (sSwissOk_any _ _ _ xs _ _ _ ms _ HI.out HI2.out).mono ?_; rw [decide_eq_false HS.out]; rintro e w1 ⟨rfl, hE1⟩)
    go_ret
    exact ⟨ret_int HF.out.symm, hE1⟩

end Go.Proofs.Ytbaljgdepicigaa
