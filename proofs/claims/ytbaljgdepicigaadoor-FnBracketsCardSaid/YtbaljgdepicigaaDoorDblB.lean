/-
  Contracts of the functions that play games of a tour, one after the other: single elimination.
-/
import Derived.Laws.ShiftsVar
import Derived.Deep.RegionLaw
import Derived.Deep.RegionHeld3
import Derived.Test.YtbaljgdepicigaaDoorBase
import Derived.Test.YtbaljgdepicigaaDoorMgA
import Derived.Test.YtbaljgdepicigaaDoorLib
import Derived.Test.YtbaljgdepicigaaDoorAid
import Derived.Test.YtbaljgdepicigaaDoorStep
import Derived.Test.YtbaljgdepicigaaDoorGrid
import Derived.Test.YtbaljgdepicigaaDoorLibF
import Derived.Test.YtbaljgdepicigaaDoorPop
import Derived.Test.YtbaljgdepicigaaDoorDblA
import Derived.Test.YtbaljgdepicigaaDoorSeed
import Derived.Test.YtbaljgdepicigaaDoorTour
import Derived.Test.YtbaljgdepicigaaDoorTourB
namespace Go.Proofs.YtbaljgdepicigaaDoor
open Go.RowKit
set_option linter.unusedVariables false

-- words
theorem full_wrapD {s : Int} (h0 : 0 ≤ s) (h8 : s ≤ 8) : wrap64 (wrap64 (2 ^ s.toNat) - 1) = (fullS s : Int) := by
  have h2 : (2 : Nat) ^ s.toNat ≤ 2 ^ 8 := Nat.pow_le_pow_right (by omega) (by omega)
  have h3 : ((2 ^ s.toNat : Nat) : Int) = (2 : Int) ^ s.toNat := by simp
  have h4 := Nat.two_pow_pos s.toNat
  rw [← h3]
  unfold fullS
  generalize (2 : Nat) ^ s.toNat = p at *
  unfold wrap64
  omega
theorem mems_full : ∀ n : Nat, n < 9 → mems (2 ^ n - 1) = upto n := by decide
theorem meetG_yes {xs : List Int} {p q : Nat} (h : bts xs p q) : won xs (p : Int) (q : Int) = p ∧ lostG xs (p : Int) (q : Int) = q := by simp [won, lostG, beatsI, h]
theorem meetG_no {xs : List Int} {p q : Nat} (h : ¬ bts xs p q) : won xs (p : Int) (q : Int) = q ∧ lostG xs (p : Int) (q : Int) = p := by simp [won, lostG, beatsI, h]
theorem set_repD {α : Type} (l : List α) (n k : Nat) (z x : α) (hl : l.length = k) (hk : k < n) : (l ++ List.replicate (n - k) z).set k x = l ++ [x] ++ List.replicate (n - (k + 1)) z := by
  subst hl
  obtain ⟨m, hm⟩ : ∃ m, n - l.length = m + 1 := ⟨n - l.length - 1, by omega⟩
  rw [hm, List.replicate_succ, show n - (l.length + 1) = m by omega]
  rw [List.set_append_right _ _ (Nat.le_refl _)]
  simp
theorem upto_fill (n k : Nat) (h : k < n) : (upto k ++ List.replicate (n - k) 0).set k (k : Int) = upto (k + 1) ++ List.replicate (n - (k + 1)) 0 := by
  rw [upto_snoc]; exact set_repD _ n k 0 _ (upto_len k) h
-- indices
theorem indices_any (n : Nat) (w : World) (hn : n ≤ 65536) :
    Calls Tryd.prog 49 #[.int .i64 (n : Int)] w (RetI w (upto n)) := by
  have hmk := run_make_ints n (by omega)
  go_enter Tryd.func49, Tryd.ntmps49
  go_wp2
  have h0 := (OwI.zeros w (base := w.heap.size) n (by omega) (Nat.le_refl _))
  go_loopw [9] (fun i wr => ∃ k : Nat, k ≤ n ∧ i = .int .i64 k ∧ Hid (OwI wr w.heap.size (some ⟨w.heap.size, 0, none⟩) n n (upto k ++ List.replicate (n - k) 0)) ∧ Ext w wr) (fun i _ => n - (intOf i).toNat)
  case atStart => exact ⟨0, Nat.zero_le _, rfl, hide (by simpa [upto] using h0), Ext.one _ _⟩
  case round =>
    obtain ⟨k, hk, rfl, ho, hE⟩ := hrel
    by_cases hlt : k < n
    · obtain ⟨b', off', y, e, hb', hlt', hy, wy, hc', hf'⟩ := ho.out.get hlt
      cases e
      have ho1 := ho.out.store rfl hlt (x := (k : Int)) ⟨by omega, by omega⟩
      simp only [Nat.zero_add] at hc' hf' ho1
      have HO := hide ho1
      clear hy h0 ho1
      have HE := hide hE; clear hE
      have hk0 : (0 : Int) ≤ (k : Int) := by omega
      have hkn : (k : Int) < (n : Int) := by omega
      go_wp2
      go_roundw
      case rel => exact ⟨k + 1, by omega, by go_num, hide (by have hs := HO.out; rwa [upto_fill n k hlt] at hs), HE.out.setCell (Nat.le_refl _) _⟩
      case measure => (simp [intOf] <;> omega)
    · have : k = n := by omega
      subst this
      have HO := hide ho.out; clear ho h0
      go_wp2
      go_ret
      have ho := HO.out
      rw [Nat.sub_self, List.replicate_zero, List.append_nil] at ho
      exact RetI.mk rfl ho hE
-- single words
theorem won_mem {xs : List Int} {n : Nat} {p q : Nat} (hp : p < n) (hq : q < n) : ∃ (u v : Nat), won xs (p : Int) (q : Int) = u ∧ lostG xs (p : Int) (q : Int) = v ∧ u < n ∧ v < n := by
  rcases won_lost xs (p : Int) (q : Int) with ⟨h1, h2⟩ | ⟨h1, h2⟩
  · exact ⟨p, q, h1, h2, hp, hq⟩
  · exact ⟨q, p, h1, h2, hq, hp⟩
theorem stS_get {xs : List Int} {n j k : Nat} {x : Int} (hj : j + 1 ≤ n) (h : (stS xs (upto n) j).r[k]? = some x) : ∃ p : Nat, x = (p : Int) ∧ p < n := by
  have h1 := upto_mem.1 (stS_mem xs (upto n) (j := j) (by rw [upto_len]; exact hj) x (List.mem_of_getElem? h))
  exact ⟨x.toNat, by omega, by omega⟩
theorem getD_of {l : List Int} {k : Nat} {x : Int} (h : l[k]? = some x) : l.getD k 0 = x := by rw [List.getD, h]; rfl

end Go.Proofs.YtbaljgdepicigaaDoor
