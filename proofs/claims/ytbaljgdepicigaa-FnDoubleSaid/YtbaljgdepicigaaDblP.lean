/-
  What double elimination answers, all facts in one; and who beats whom.
-/
import Derived.Deep.RegionHeld3
import Derived.Laws.ShiftsVar
import Derived.Test.YtbaljgdepicigaaBase
import Derived.Test.YtbaljgdepicigaaMathA
import Derived.Test.YtbaljgdepicigaaMathD
import Derived.Test.YtbaljgdepicigaaLib
import Derived.Test.YtbaljgdepicigaaAid
import Derived.Test.YtbaljgdepicigaaStep
import Derived.Test.YtbaljgdepicigaaGrid
import Derived.Test.YtbaljgdepicigaaLibF
import Derived.Test.YtbaljgdepicigaaMathB
import Derived.Test.YtbaljgdepicigaaMathU
import Derived.Test.YtbaljgdepicigaaMathW
import Derived.Test.YtbaljgdepicigaaMathZ
import Derived.Test.YtbaljgdepicigaaMathY
import Derived.Test.YtbaljgdepicigaaPop
import Derived.Test.YtbaljgdepicigaaMathG
import Derived.Test.YtbaljgdepicigaaMathQ
import Derived.Test.YtbaljgdepicigaaMathX
import Derived.Test.YtbaljgdepicigaaMathF
import Derived.Test.YtbaljgdepicigaaMathL
import Derived.Test.YtbaljgdepicigaaMathN
import Derived.Test.YtbaljgdepicigaaMathI
import Derived.Test.YtbaljgdepicigaaMathS
import Derived.Test.YtbaljgdepicigaaMathP
import Derived.Test.YtbaljgdepicigaaDblA
import Derived.Test.YtbaljgdepicigaaSeed
import Derived.Test.YtbaljgdepicigaaTour
import Derived.Test.YtbaljgdepicigaaTourB
import Derived.Test.YtbaljgdepicigaaDblB
import Derived.Test.YtbaljgdepicigaaDblD
import Derived.Test.YtbaljgdepicigaaDblC
import Derived.Test.YtbaljgdepicigaaDblE
import Derived.Test.YtbaljgdepicigaaDblF
import Derived.Test.YtbaljgdepicigaaDblG
import Derived.Test.YtbaljgdepicigaaDblH
import Derived.Test.YtbaljgdepicigaaDblI
import Derived.Test.YtbaljgdepicigaaDblJ
import Derived.Test.YtbaljgdepicigaaWin
import Derived.Test.YtbaljgdepicigaaWinB
import Derived.Test.YtbaljgdepicigaaWinC
import Derived.Test.YtbaljgdepicigaaWinE
import Derived.Test.YtbaljgdepicigaaSovA
namespace Go.Proofs.Ytbaljgdepicigaa
open Go.RowKit
set_option linter.unusedVariables false

-- words
structure DblOk (m : Nat) (xs : List Int) (G : List (List Int)) (P : List Int) (S : List (List Int)) (wi : Int) (ex : Nat) : Prop where
  glen : G.length + 2 = 2 * m + ex
  exle : ex ≤ 1
  plen : P.length = m
  pfst : P[0]? = some wi
  lwin : lossOf G wi = ex
  loth : ∀ i x, 0 < i → P[i]? = some x → lossOf G x = 2
  pnod : P.Nodup
  pbnd : ∀ x ∈ P, 0 ≤ x ∧ x < (m : Int)
  psum : playSum G P = 2 * G.length
  gbts : ∀ x ∈ G, ∃ u v : Nat, x = [(u : Int), (v : Int)] ∧ u < m ∧ v < m ∧ bts xs u v
  slen : S.length = m - 1
  sbts : ∀ x ∈ S, ∃ u v : Nat, x = [(u : Int), (v : Int)] ∧ u < m ∧ v < m ∧ bts xs u v
  sove : 0 ≤ sovOf (m : Int) xs → wi = sovOf (m : Int) xs ∧ ex = 0 ∧ (2 ≤ m → ∃ v, S[S.length - 1]? = some [sovOf (m : Int) xs, v])
theorem sov_beats {m : Nat} {xs : List Int} (ht : tourOk (m : Int) xs) (h : 0 ≤ sovOf (m : Int) xs) : sovOf (m : Int) xs ∈ upto m ∧ ∀ b ∈ upto m, b ≠ sovOf (m : Int) xs → beatsI xs (sovOf (m : Int) xs) b ∧ ¬ beatsI xs b (sovOf (m : Int) xs) := by
  have hsz := tourOk_size ht
  have hl : xs.length = m := by omega
  unfold sovOf at *
  rw [if_pos ht, Int.toNat_natCast] at *
  obtain ⟨k, hk, hx, hp⟩ : ∃ k : Nat, idxF (sovP (m : Int) xs) (upto m) = (k : Int) ∧ k < m ∧ sovP (m : Int) xs (k : Int) = true := by
    obtain ⟨x, h1, h2, _⟩ := idxF_at (p := sovP (m : Int) xs) (xs := upto m) (by omega)
    have hlt := (List.getElem?_eq_some_iff.1 h1).1
    rw [upto_len] at hlt
    rw [upto_get hlt] at h1
    have := Option.some.inj h1
    refine ⟨(idxF (sovP (m : Int) xs) (upto m)).toNat, by omega, hlt, by rw [this]; exact h2⟩
  rw [hk]
  have hpc : (pc (rowN xs (k : Int)) : Int) = (m : Int) - 1 := by unfold sovP at hp; simpa using hp
  obtain ⟨r, hr, hlt⟩ := row_nat ht (a := k) (by omega)
  have hrn : rowN xs (k : Int) = r := by simp [rowN, List.getD, hr]
  rw [hrn] at hpc
  rw [hl] at hlt
  have hself : r.testBit k = false := by
    cases e : r.testBit k with
    | false => rfl
    | true => exact absurd ((bts_nat hr).2 e) (bts_self ht (by omega))
  refine ⟨upto_mem.2 (by omega), fun b hb hne => ?_⟩
  have hb := upto_mem.1 hb
  obtain ⟨j, rfl⟩ : ∃ j : Nat, b = (j : Int) := ⟨b.toNat, by omega⟩
  have hbt : bts xs k j := (bts_nat hr).2 (pc_others (by omega) hlt (by omega) hx hself (by omega) (by omega))
  unfold beatsI
  rw [Int.toNat_natCast, Int.toNat_natCast]
  exact ⟨hbt, (bts_anti ht (by omega) (by omega) (by omega)).1 hbt⟩
theorem nat_game {m : Nat} {xs : List Int} {u v : Int} (hu : u ∈ upto m) (hv : v ∈ upto m) (h : beatsI xs u v) : ∃ a b : Nat, [u, v] = [(a : Int), (b : Int)] ∧ a < m ∧ b < m ∧ bts xs a b := by
  have h1 := upto_mem.1 hu
  have h2 := upto_mem.1 hv
  exact ⟨u.toNat, v.toNat, by rw [Int.toNat_of_nonneg h1.1, Int.toNat_of_nonneg h2.1], by omega, by omega, h⟩
theorem dbl_ok {m : Nat} {xs : List Int} (ht : tourOk (m : Int) xs) : ∃ ex, DblOk m xs (gamesOf (m : Int) xs) (placesOf2 (m : Int) xs) (singleOf (m : Int) xs) (winD (m : Int) xs) ex := by
  have hsz := tourOk_size ht
  have hl : xs.length = m := by omega
  have e1 : gamesOf (m : Int) xs = doubleG xs (upto m) := by unfold gamesOf; rw [if_pos ht, hl]
  have e2 : placesOf2 (m : Int) xs = placesD xs (upto m) := by unfold placesOf2; rw [if_pos ht, hl]
  have e3 : singleOf (m : Int) xs = singleG xs (upto m) := by unfold singleOf; rw [if_pos ht, hl]
  have e4 : winD (m : Int) xs = (placesD xs (upto m)).getD 0 0 := by unfold winD; rw [if_pos ht, e2]
  rw [e1, e2, e3, e4]
  have h0 : upto m ≠ [] := by intro e; have := upto_len m; rw [e] at this; simp at this; omega
  have hnd := upto_nodup m
  obtain ⟨wi, q, hP, hgl, hle, hq, hsv⟩ := double_end xs hnd h0
  have hperm := placesD_perm xs (upto m)
  have htot := total_upto ht (o := upto m) (fun x hx => by have := upto_mem.1 hx; omega)
  have hgb := game_beats hnd htot
  have hstl := stS_len xs (upto m) (j := (upto m).length - 1) (by rw [upto_len]; omega)
  rw [upto_len] at hgl hstl
  refine ⟨lossOf (doubleG xs (upto m)) wi, ?_⟩
  have hw0 : (placesD xs (upto m)).getD 0 0 = wi := by rw [hP]; rfl
  rw [hw0]
  exact {
    glen := hgl
    exle := hle
    plen := by rw [hperm.length_eq, upto_len]
    pfst := by rw [hP]; rfl
    lwin := rfl
    loth := fun i x hi hx => by
      rw [hP] at hx
      obtain ⟨j, rfl⟩ : ∃ j, i = j + 1 := ⟨i - 1, by omega⟩
      rw [List.getElem?_cons_succ] at hx
      exact hq x (List.mem_of_getElem? hx)
    pnod := hperm.nodup_iff.2 hnd
    pbnd := fun x hx => by have := upto_mem.1 (hperm.mem_iff.1 hx); omega
    psum := plays_all (hperm.nodup_iff.2 hnd) _ (fun x hx => by
      obtain ⟨u, v, e, h1, h2, h3, _⟩ := hgb x hx
      exact ⟨u, v, e, h1, hperm.mem_iff.2 h2, hperm.mem_iff.2 h3⟩)
    gbts := fun x hx => by
      obtain ⟨u, v, rfl, h1, h2, h3, h4⟩ := hgb x hx
      exact nat_game h2 h3 h4
    slen := by unfold singleG; rw [upto_len]; exact hstl.2
    sbts := fun x hx => by
      obtain ⟨u, v, rfl, h2, h3, h4⟩ := single_beats hnd htot _ (by rw [upto_len]; omega) x hx
      exact nat_game h2 h3 h4
    sove := fun hs => by
      obtain ⟨k1, k2⟩ := sov_beats ht hs
      obtain ⟨s1, s2⟩ := hsv _ k1 k2
      exact ⟨s1, s2, fun hm2 => single_end hnd k1 (by rw [upto_len]; omega) k2⟩ }
/-- Double elimination in another order. -/
theorem order_len {m : Nat} {xs o : List Int} (ht : tourOk (m : Int) xs) (hp : isPerm m o) : orderT (m : Int) xs o ∧ ((orderG (m : Int) xs o).length = 2 * m - 2 ∨ (orderG (m : Int) xs o).length = 2 * m - 1) ∧ (m = 1 → (orderG (m : Int) xs o).length = 0) := by
  have hsz := tourOk_size ht
  have hm1 : 1 ≤ m := by omega
  have hT : orderT (m : Int) xs o := ⟨ht, by rw [hp.1], ⟨fun x hx => by have := hp.2.2 x hx; rw [hp.1]; exact this, hp.2.1⟩⟩
  have e : orderG (m : Int) xs o = doubleG xs o := if_pos hT
  have h0 : o ≠ [] := by intro e; have := hp.1; rw [e] at this; simp at this; omega
  obtain ⟨wi, q, hP, hgl, hle, hq, hsv⟩ := double_end xs hp.2.1 h0
  rw [hp.1] at hgl
  refine ⟨hT, by rw [e]; omega, fun h1 => ?_⟩
  rw [e, doubleG_len]
  refine lenD_eq (j := 0) (fun i hi => by omega) ?_
  show ¬ 1 < o.length + 0
  rw [hp.1]; omega

end Go.Proofs.Ytbaljgdepicigaa
