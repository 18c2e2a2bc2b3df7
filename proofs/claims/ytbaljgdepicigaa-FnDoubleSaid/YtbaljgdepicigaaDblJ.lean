/-
  Contracts of the functions that ask a double elimination: winner, first out, defeats, games, a reset.
-/
import Derived.Laws.ShiftsVar
import Derived.Deep.RegionHeld3
import Derived.Deep.RegionWith
import Derived.Test.YtbaljgdepicigaaBase
import Derived.Test.YtbaljgdepicigaaMathA
import Derived.Test.YtbaljgdepicigaaMathD
import Derived.Test.YtbaljgdepicigaaLib
import Derived.Test.YtbaljgdepicigaaAid
import Derived.Test.YtbaljgdepicigaaStep
import Derived.Test.YtbaljgdepicigaaGrid
import Derived.Test.YtbaljgdepicigaaLibF
import Derived.Test.YtbaljgdepicigaaMathB
import Derived.Test.YtbaljgdepicigaaMathU
import Derived.Test.YtbaljgdepicigaaMathW
import Derived.Test.YtbaljgdepicigaaMathZ
import Derived.Test.YtbaljgdepicigaaMathY
import Derived.Test.YtbaljgdepicigaaPop
import Derived.Test.YtbaljgdepicigaaMathG
import Derived.Test.YtbaljgdepicigaaMathX
import Derived.Test.YtbaljgdepicigaaMathL
import Derived.Test.YtbaljgdepicigaaMathN
import Derived.Test.YtbaljgdepicigaaDblA
import Derived.Test.YtbaljgdepicigaaSeed
import Derived.Test.YtbaljgdepicigaaTour
import Derived.Test.YtbaljgdepicigaaTourB
import Derived.Test.YtbaljgdepicigaaDblB
import Derived.Test.YtbaljgdepicigaaDblD
import Derived.Test.YtbaljgdepicigaaDblC
import Derived.Test.YtbaljgdepicigaaDblE
import Derived.Test.YtbaljgdepicigaaDblF
import Derived.Test.YtbaljgdepicigaaDblH
import Derived.Test.YtbaljgdepicigaaDblI
namespace Go.Proofs.Ytbaljgdepicigaa
open Go.RowKit
set_option linter.unusedVariables false

-- words of winners
def winD (s : Int) (xs : List Int) : Int := if tourOk s xs then (placesOf2 s xs).getD 0 0 else -1
def outD (s : Int) (xs : List Int) : Int := if tourOk s xs ∧ s ≠ 1 then (placesOf2 s xs).getD (xs.length - 1) 0 else -1
def defD (s : Int) (xs : List Int) (a : Int) : Int := if tourOk s xs ∧ 0 ≤ a ∧ a ≤ s - 1 then (lossOf (gamesOf s xs) a : Int) else -1
def gamD (s : Int) (xs : List Int) (a : Int) : Int := if tourOk s xs ∧ 0 ≤ a ∧ a ≤ s - 1 then (playsOf (gamesOf s xs) a : Int) else -1
theorem places2_len {s : Int} {xs : List Int} (h : tourOk s xs) : (placesOf2 s xs).length = xs.length := by unfold placesOf2; rw [if_pos h, placesD_len, upto_len]
theorem games_two (s : Int) (xs : List Int) {n : Nat} (hn : xs.length = n) : ∀ x ∈ gamesOf s xs, ∃ u v : Nat, x = [(u : Int), (v : Int)] ∧ u ≠ v ∧ u < n ∧ v < n := by
  unfold gamesOf
  split
  · intro x hx
    rw [hn] at hx
    obtain ⟨u, v, e, huv, hu, hv⟩ := double_two xs (upto_nodup n) x hx
    have hu := upto_mem.1 hu
    have hv := upto_mem.1 hv
    exact ⟨u.toNat, v.toNat, by rw [e, Int.toNat_of_nonneg hu.1, Int.toNat_of_nonneg hv.1], fun e => huv (by omega), by omega, by omega⟩
  · intro x hx; cases hx
theorem games_le (s : Int) (xs : List Int) : (gamesOf s xs).length ≤ 16 := by
  unfold gamesOf
  split
  · rename_i h
    have hz := tourOk_size h
    rw [doubleG_len]
    have := lenD_le xs (upto xs.length)
    rw [upto_len] at this
    omega
  · simp
theorem winD_in {s : Int} {xs : List Int} (h : tourOk s xs) : 0 ≤ winD s xs ∧ winD s xs ≤ s - 1 := by
  have hz := tourOk_size h
  unfold winD placesOf2
  rw [if_pos h, if_pos h]
  have hl := placesD_len xs (upto xs.length)
  rw [upto_len] at hl
  have hm : (placesD xs (upto xs.length)).getD 0 0 ∈ placesD xs (upto xs.length) := by
    rw [List.getD, List.getElem?_eq_getElem (by omega)]; simp
  have h2 := upto_mem.1 ((placesD_perm xs (upto xs.length)).mem_iff.1 hm)
  omega
-- impl.DoubleWinner
theorem iWinner2_any (s : Int) (A : Option Addr) (n c : Nat) (xs : List Int) (w : World) (h : Ints w A n c xs) :
    Calls Try.prog 65 #[.agg #[.int .i64 s, .slice A n c]] w fun e w' => e = .returned (.int .i64 (winD s xs)) ∧ Ext w w' := by
  have HI := hide h
  by_cases ht : tourOk s xs
  · have HL := hide (show (placesOf2 s xs).length = n by rw [places2_len ht, h.len])
    have hz := tourOk_size ht
    rw [h.len] at hz
    obtain ⟨hn1, hn8, rfl⟩ := hz
    have HT := hide ht
    have HV := hide (show winD (n : Int) xs = (placesOf2 (n : Int) xs).getD 0 0 from if_pos ht)
    clear ht h
    obtain ⟨W, hW⟩ : ∃ W : World, W = w.alloc (.cells #[.int .i64 (n : Int), .slice A n c] 33) := ⟨_, rfl⟩
    have HE := hide (show Ext w W by rw [hW]; exact Ext.one _ _)
    have B0 := hide (show W.cell? ⟨w.heap.size, 0, none⟩ = some (.int .i64 (n : Int)) by rw [hW]; simp)
    have B1 := hide (show W.cell? ⟨w.heap.size, 1, none⟩ = some (.slice A n c) by rw [hW]; simp)
    have HW := hide hW
    clear hW
    go_enter Try.func65, Try.ntmps65
    go_wp2_with fail
    rw [← HW.out]
    refine (iTourOk_any _ _ _ _ xs _ (HI.out.ext HE.out)).mono ?_
    rw [decide_eq_true HT.out]
    rintro e w1 ⟨rfl, hE1⟩
    have c0 := hE1.get B0.out
    have c1 := hE1.get B1.out
    have HE1 := hide (HE.out.trans hE1)
    clear hE1
    go_wp2_with fail
    refine (iPlaces2_any _ _ _ _ xs _ (HI.out.ext HE1.out)).mono ?_
    rintro e w2 ⟨B, d, rfl, hoB, hE2⟩
    rw [HL.out] at hoB ⊢
    obtain ⟨b, o, x, rfl, _, hb2, hx, _, hcx, _⟩ := hoB.get (k := 0) (by omega)
    have HX := hide hx
    have HE2 := hide (HE1.out.trans hE2)
    have hn0 : (0 : Int) < (n : Int) := by omega
    simp only [Nat.add_zero] at hcx
    clear hx hoB hE2
    go_wp2
    go_ret
    exact ⟨ret_int (by rw [HV.out]; exact (getD_of HX.out).symm), HE2.out⟩
  · have HV := hide (show winD s xs = -1 from if_neg ht)
    have HT := hide ht
    clear ht h
    go_enter Try.func65, Try.ntmps65
    go_wp2_with fail
    refine (iTourOk_any _ _ _ _ xs _ (HI.out.ext (Ext.one _ _))).mono ?_
    rw [decide_eq_false HT.out]
    rintro e w1 ⟨rfl, hE1⟩
    go_wp2
    go_ret
    exact ⟨ret_int HV.out.symm, (Ext.one _ _).trans hE1⟩
-- impl.FirstOut
theorem iFirstOut_any (s : Int) (A : Option Addr) (n c : Nat) (xs : List Int) (w : World) (h : Ints w A n c xs) :
    Calls Try.prog 73 #[.agg #[.int .i64 s, .slice A n c]] w fun e w' => e = .returned (.int .i64 (outD s xs)) ∧ Ext w w' := by
  have HI := hide h
  have HXL := hide h.len
  by_cases ht : tourOk s xs
  · have HL := hide (show (placesOf2 s xs).length = n by rw [places2_len ht, h.len])
    have hz := tourOk_size ht
    rw [h.len] at hz
    obtain ⟨hn1, hn8, rfl⟩ := hz
    obtain ⟨m, hmn⟩ : ∃ m : Nat, n = m + 1 := ⟨n - 1, by omega⟩
    have hni : (n : Int) = (m : Int) + 1 := by omega
    rw [hni] at ht HL
    subst hmn
    clear hni
    have HT := hide ht
    obtain ⟨W, hW⟩ : ∃ W : World, W = w.alloc (.cells #[.int .i64 ((m : Int) + 1), .slice A (m + 1) c] 33) := ⟨_, rfl⟩
    have HE := hide (show Ext w W by rw [hW]; exact Ext.one _ _)
    have B0 := hide (show W.cell? ⟨w.heap.size, 0, none⟩ = some (.int .i64 ((m : Int) + 1)) by rw [hW]; simp)
    have B1 := hide (show W.cell? ⟨w.heap.size, 1, none⟩ = some (.slice A (m + 1) c) by rw [hW]; simp)
    have HW := hide hW
    clear h hW
    by_cases h1 : m = 0
    · have hbe : ((m : Int) + 1 == 1) = true := by rw [beq_iff_eq]; omega
      have HV := hide (show outD ((m : Int) + 1) xs = -1 from if_neg fun hh => hh.2 (by omega))
      clear ht h1
      rw [show ((m + 1 : Nat) : Int) = (m : Int) + 1 from rfl]
      go_enter Try.func73, Try.ntmps73
      go_wp2_with fail
      rw [← HW.out]
      refine (iTourOk_any _ _ _ _ xs _ (HI.out.ext HE.out)).mono ?_
      rw [decide_eq_true HT.out]
      rintro e w1 ⟨rfl, hE1⟩
      have c0 := hE1.get B0.out
      have c1 := hE1.get B1.out
      have HE1 := hide (HE.out.trans hE1)
      clear hE1
      go_wp2
      go_ret
      exact ⟨ret_int HV.out.symm, HE1.out⟩
    · have hbe : ((m : Int) + 1 == 1) = false := by rw [beq_eq_false_iff_ne]; omega
      have HV := hide (show outD ((m : Int) + 1) xs = (placesOf2 ((m : Int) + 1) xs).getD m 0 by unfold outD; rw [if_pos ⟨ht, by omega⟩, HXL.out]; rfl)
      have hml : m < m + 1 := by omega
      have hml2 : (m : Int) < (m : Int) + 1 := by omega
      have hwr : IntKind.i64.wrap (m : Int) = (m : Int) := by rw [IntKind.wrap_i64]; omega
      clear ht h1
      rw [show ((m + 1 : Nat) : Int) = (m : Int) + 1 from rfl]
      go_enter Try.func73, Try.ntmps73
      go_wp2_with fail
      rw [← HW.out]
      refine (iTourOk_any _ _ _ _ xs _ (HI.out.ext HE.out)).mono ?_
      rw [decide_eq_true HT.out]
      rintro e w1 ⟨rfl, hE1⟩
      have c0 := hE1.get B0.out
      have c1 := hE1.get B1.out
      have HE1 := hide (HE.out.trans hE1)
      clear hE1
      go_wp2
      go_region_with ((go_at_call 66; refine (iPlaces2_any _ _ _ _ xs _ (HI.out.ext (HE1.out.drew))).mono ?_; rintro e w2 ⟨B, d, rfl, hoB, hE2⟩; rw [HL.out] at hoB ⊢; obtain ⟨b, o, x, rfl, _, hb2, hx, _, hcx, _⟩ := hoB.get (k := m) (by omega); have HX := hide hx; have HE2 := hide hE2; have d0 := HE2.out.get ((Ext.refl w1).drew.get c0); have d1 := HE2.out.get ((Ext.refl w1).drew.get c1); clear hx hoB hE2))
      all_goals (try go_wp2)
      all_goals go_ret
      all_goals exact ⟨ret_int (by rw [HV.out]; exact (getD_of HX.out).symm), HE1.out.trans ((Ext.refl w1).drew.trans HE2.out)⟩
  · have HV := hide (show outD s xs = -1 from if_neg fun hh => ht hh.1)
    have HT := hide ht
    clear ht h
    go_enter Try.func73, Try.ntmps73
    go_wp2_with fail
    refine (iTourOk_any _ _ _ _ xs _ (HI.out.ext (Ext.one _ _))).mono ?_
    rw [decide_eq_false HT.out]
    rintro e w1 ⟨rfl, hE1⟩
    go_wp2
    go_ret
    exact ⟨ret_int HV.out.symm, (Ext.one _ _).trans hE1⟩

end Go.Proofs.Ytbaljgdepicigaa
