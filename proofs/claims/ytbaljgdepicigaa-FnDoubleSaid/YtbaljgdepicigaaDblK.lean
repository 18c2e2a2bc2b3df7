/-
  Contracts of the functions that count defeats and games, and tell of a reset.
-/
import Derived.Laws.ShiftsVar
import Derived.Deep.RegionHeld3
import Derived.Deep.RegionWith
import Derived.Test.YtbaljgdepicigaaBase
import Derived.Test.YtbaljgdepicigaaMathA
import Derived.Test.YtbaljgdepicigaaMathD
import Derived.Test.YtbaljgdepicigaaLib
import Derived.Test.YtbaljgdepicigaaAid
import Derived.Test.YtbaljgdepicigaaStep
import Derived.Test.YtbaljgdepicigaaGrid
import Derived.Test.YtbaljgdepicigaaLibF
import Derived.Test.YtbaljgdepicigaaMathB
import Derived.Test.YtbaljgdepicigaaMathU
import Derived.Test.YtbaljgdepicigaaMathW
import Derived.Test.YtbaljgdepicigaaMathZ
import Derived.Test.YtbaljgdepicigaaMathY
import Derived.Test.YtbaljgdepicigaaPop
import Derived.Test.YtbaljgdepicigaaMathG
import Derived.Test.YtbaljgdepicigaaMathX
import Derived.Test.YtbaljgdepicigaaMathL
import Derived.Test.YtbaljgdepicigaaMathN
import Derived.Test.YtbaljgdepicigaaDblA
import Derived.Test.YtbaljgdepicigaaSeed
import Derived.Test.YtbaljgdepicigaaTour
import Derived.Test.YtbaljgdepicigaaTourB
import Derived.Test.YtbaljgdepicigaaDblB
import Derived.Test.YtbaljgdepicigaaDblD
import Derived.Test.YtbaljgdepicigaaDblC
import Derived.Test.YtbaljgdepicigaaDblE
import Derived.Test.YtbaljgdepicigaaDblF
import Derived.Test.YtbaljgdepicigaaDblH
import Derived.Test.YtbaljgdepicigaaDblI
import Derived.Test.YtbaljgdepicigaaDblJ
import Derived.Test.YtbaljgdepicigaaWin
import Derived.Test.YtbaljgdepicigaaWinB
import Derived.Test.YtbaljgdepicigaaWinC
namespace Go.Proofs.Ytbaljgdepicigaa
open Go.RowKit
set_option linter.unusedVariables false

-- the wanted games
theorem lostOne_any (B : Option Addr) (m d : Nat) (u v : Nat) (pb : Nat) (a : Int) (w : World) (hn : u < 9 ∧ v < 9) (hl : m = 2) (h : Ints w B m d [(u : Int), (v : Int)]) (hc : w.cell? ⟨pb, 0, none⟩ = some (.int .i64 a)) :
    Calls Try.prog 134 #[.slice B m d, .pointer (some ⟨pb, 0, none⟩)] w fun e w' => e = .returned (.bool (decide ((v : Int) = a))) ∧ Ext w w' := by
  subst hl
  obtain ⟨b2, o2, y, rfl, hb2, hy, wy, hcy⟩ := h.get (k := 1) (by omega)
  simp at hy
  subst hy
  clear h
  by_cases e : (v : Int) = a
  · have hbe : ((v : Int) == a) = true := by simpa using e
    have HEQ := hide e
    clear e
    go_enter Try.func134, Try.ntmps134
    go_wp2
    go_quiet (fail)
    try rw [hbe]
    go_wp2
    go_ret
    exact ⟨ret_bool (by simp [HEQ.out]), (Ext.refl _).drewN _⟩
  · have hbe : ((v : Int) == a) = false := by simpa using e
    have HEQ := hide e
    clear e
    go_enter Try.func134, Try.ntmps134
    go_wp2
    go_quiet (fail)
    try rw [hbe]
    go_wp2
    go_ret
    exact ⟨ret_bool (by simp [HEQ.out]), (Ext.refl _).drewN _⟩
theorem playsOne_any (B : Option Addr) (m d : Nat) (u v : Nat) (pb : Nat) (a : Int) (w : World) (hn : u < 9 ∧ v < 9) (hl : m = 2) (h : Ints w B m d [(u : Int), (v : Int)]) (hc : w.cell? ⟨pb, 0, none⟩ = some (.int .i64 a)) :
    Calls Try.prog 135 #[.slice B m d, .pointer (some ⟨pb, 0, none⟩)] w fun e w' => e = .returned (.bool (decide (a ∈ [(u : Int), (v : Int)]))) ∧ Ext w w' := by
  subst hl
  have HI := hide h
  clear h
  go_enter Try.func135, Try.ntmps135
  go_wp2_with fail
  refine (Contains_any _ _ _ _ _ _ HI.out).mono ?_
  rintro e w' ⟨rfl, rfl⟩
  go_wp2
  go_ret
  exact ⟨ret_bool (by simp), Ext.refl _⟩
-- (impl.Tour).countDouble impl.DefeatsOf$1
theorem lostOneCount_any (s : Int) (A : Option Addr) (n c : Nat) (xs : List Int) (pb : Nat) (a : Int) (w : World) (ht : tourOk s xs) (h : Ints w A n c xs) (hc : w.cell? ⟨pb, 0, none⟩ = some (.int .i64 a)) :
    Calls Try.prog 133 #[.agg #[.int .i64 s, .slice A n c], .func (.func 134) #[] #[.pointer (some ⟨pb, 0, none⟩)]] w fun e w' => e = .returned (.int .i64 (lossOf (gamesOf s xs) a : Int)) ∧ Ext w w' := by
  have HI := hide h
  have hxl := h.len
  have hz := tourOk_size ht
  rw [hxl] at hz
  obtain ⟨hn1, hn8, rfl⟩ := hz
  have HC := hide hc
  have HP := hide (games_two (n : Int) xs hxl)
  have hgl := games_le (n : Int) xs
  clear ht h hxl hc
  obtain ⟨W, hW⟩ : ∃ W : World, W = w.alloc (.cells #[.int .i64 (n : Int), .slice A n c] 33) := ⟨_, rfl⟩
  have HE := hide (show Ext w W by rw [hW]; exact Ext.one _ _)
  have c0 := (show W.cell? ⟨w.heap.size, 0, none⟩ = some (.int .i64 (n : Int)) by rw [hW]; simp)
  have c1 := (show W.cell? ⟨w.heap.size, 1, none⟩ = some (.slice A n c) by rw [hW]; simp)
  have HW := hide hW
  clear hW
  go_enter Try.func133, Try.ntmps133
  go_wp2_with fail
  rw [← HW.out]
  refine (iDouble_any _ _ _ _ xs _ (HI.out.ext HE.out)).mono ?_
  rintro e w3 ⟨G, g, rfl, hoG, hE3⟩
  have HE3 := hide (HE.out.trans hE3)
  have HG := hide hoG.grid
  clear hoG hE3 c0 c1
  go_wp2
  generalize hgs : gamesOf (n : Int) xs = gs at *
  generalize hm : gs.length = m at *
  have HGS := hide hgs
  have HGL := hide hm
  clear hgs hm
  go_loopw [5, 11] (fun q i wr => ∃ k : Nat, k ≤ m ∧ i = .int .i64 (k : Int) ∧ q = .int .i64 (lossOf (gs.take k) a : Int) ∧ Ext w3 wr) (fun _ i _ => m - (intOf i).toNat)
  case atStart => exact ⟨0, Nat.zero_le _, rfl, by simp [lossOf], Ext.refl _⟩
  case round =>
    obtain ⟨k, hk, rfl, rfl, hE⟩ := hrel
    have HER := hide hE
    clear hE
    by_cases hlt : k < m
    · obtain ⟨b, off, B2, d2, r, rfl, hbl, hr, hc, hi⟩ := (HG.out.ext HER.out).get hlt
      obtain ⟨u, v, e, _, hu, hv⟩ := HP.out r (List.mem_of_getElem? hr)
      subst e
      have HS := hide (countP_snoc (fun x : List Int => x.getD 1 0 == a) hr)
      have HIR := hide hi
      have hle : lossOf (gs.take k) a ≤ k := by
        have h1 := List.countP_le_length (p := (fun x : List Int => x.getD 1 0 == a)) (l := gs.take k)
        have h2 : (gs.take k).length ≤ k := by simp; omega
        unfold lossOf
        omega
      clear hr hi
      have HS2 := hide (show lossOf (gs.take (k + 1)) a = lossOf (gs.take k) a + if ((v:Int)=a) then 1 else 0 from by
        have h9 := HS.out
        unfold lossOf
        rw [h9]
        simp)
      clear HS
      have HCR := hide ((HE3.out.trans HER.out).get HC.out)
      by_cases e : ((v:Int)=a)
      · rw [if_pos e] at HS2
        have HEQ := hide (decide_eq_true e)
        clear e
        generalize lossOf (gs.take k) a = L at *
        go_wp2_with (go_at_call 134; refine (lostOne_any _ _ _ u v _ a _ ⟨by omega, by omega⟩ rfl HIR.out HCR.out).mono ?_; rw [HEQ.out]; rintro e w4 ⟨rfl, hE4⟩)
        have HE4 := hide (HER.out.trans hE4)
        clear hE4
        go_roundw
        case rel => exact ⟨k + 1, by omega, by go_num, by rw [HS2.out]; go_num, HE4.out⟩
        case measure => (simp [intOf] <;> omega)
      · rw [if_neg e] at HS2
        have HEQ := hide (decide_eq_false e)
        clear e
        generalize lossOf (gs.take k) a = L at *
        go_wp2_with (go_at_call 134; refine (lostOne_any _ _ _ u v _ a _ ⟨by omega, by omega⟩ rfl HIR.out HCR.out).mono ?_; rw [HEQ.out]; rintro e w4 ⟨rfl, hE4⟩)
        have HE4 := hide (HER.out.trans hE4)
        clear hE4
        go_roundw
        case rel => exact ⟨k + 1, by omega, by go_num, by rw [HS2.out]; go_num, HE4.out⟩
        case measure => (simp [intOf] <;> omega)
    · have hke : k = m := by omega
      subst hke
      go_wp2
      go_ret
      exact ⟨ret_int (by rw [HGS.out, take_len HGL.out]), HE3.out.trans HER.out⟩
-- (impl.Tour).countDouble impl.GamesOf$1
theorem playsOneCount_any (s : Int) (A : Option Addr) (n c : Nat) (xs : List Int) (pb : Nat) (a : Int) (w : World) (ht : tourOk s xs) (h : Ints w A n c xs) (hc : w.cell? ⟨pb, 0, none⟩ = some (.int .i64 a)) :
    Calls Try.prog 133 #[.agg #[.int .i64 s, .slice A n c], .func (.func 135) #[] #[.pointer (some ⟨pb, 0, none⟩)]] w fun e w' => e = .returned (.int .i64 (playsOf (gamesOf s xs) a : Int)) ∧ Ext w w' := by
  have HI := hide h
  have hxl := h.len
  have hz := tourOk_size ht
  rw [hxl] at hz
  obtain ⟨hn1, hn8, rfl⟩ := hz
  have HC := hide hc
  have HP := hide (games_two (n : Int) xs hxl)
  have hgl := games_le (n : Int) xs
  clear ht h hxl hc
  obtain ⟨W, hW⟩ : ∃ W : World, W = w.alloc (.cells #[.int .i64 (n : Int), .slice A n c] 33) := ⟨_, rfl⟩
  have HE := hide (show Ext w W by rw [hW]; exact Ext.one _ _)
  have c0 := (show W.cell? ⟨w.heap.size, 0, none⟩ = some (.int .i64 (n : Int)) by rw [hW]; simp)
  have c1 := (show W.cell? ⟨w.heap.size, 1, none⟩ = some (.slice A n c) by rw [hW]; simp)
  have HW := hide hW
  clear hW
  go_enter Try.func133, Try.ntmps133
  go_wp2_with fail
  rw [← HW.out]
  refine (iDouble_any _ _ _ _ xs _ (HI.out.ext HE.out)).mono ?_
  rintro e w3 ⟨G, g, rfl, hoG, hE3⟩
  have HE3 := hide (HE.out.trans hE3)
  have HG := hide hoG.grid
  clear hoG hE3 c0 c1
  go_wp2
  generalize hgs : gamesOf (n : Int) xs = gs at *
  generalize hm : gs.length = m at *
  have HGS := hide hgs
  have HGL := hide hm
  clear hgs hm
  go_loopw [5, 11] (fun q i wr => ∃ k : Nat, k ≤ m ∧ i = .int .i64 (k : Int) ∧ q = .int .i64 (playsOf (gs.take k) a : Int) ∧ Ext w3 wr) (fun _ i _ => m - (intOf i).toNat)
  case atStart => exact ⟨0, Nat.zero_le _, rfl, by simp [playsOf], Ext.refl _⟩
  case round =>
    obtain ⟨k, hk, rfl, rfl, hE⟩ := hrel
    have HER := hide hE
    clear hE
    by_cases hlt : k < m
    · obtain ⟨b, off, B2, d2, r, rfl, hbl, hr, hc, hi⟩ := (HG.out.ext HER.out).get hlt
      obtain ⟨u, v, e, _, hu, hv⟩ := HP.out r (List.mem_of_getElem? hr)
      subst e
      have HS := hide (countP_snoc (fun x : List Int => decide (a∈x)) hr)
      have HIR := hide hi
      have hle : playsOf (gs.take k) a ≤ k := by
        have h1 := List.countP_le_length (p := (fun x : List Int => decide (a∈x))) (l := gs.take k)
        have h2 : (gs.take k).length ≤ k := by simp; omega
        unfold playsOf
        omega
      clear hr hi
      have HS2 := hide (show playsOf (gs.take (k + 1)) a = playsOf (gs.take k) a + if (a∈[(u:Int),(v:Int)]) then 1 else 0 from by
        have h9 := HS.out
        unfold playsOf
        rw [h9]
        simp)
      clear HS
      have HCR := hide ((HE3.out.trans HER.out).get HC.out)
      by_cases e : (a∈[(u:Int),(v:Int)])
      · rw [if_pos e] at HS2
        have HEQ := hide (decide_eq_true e)
        clear e
        generalize playsOf (gs.take k) a = L at *
        go_wp2_with (go_at_call 135; refine (playsOne_any _ _ _ u v _ a _ ⟨by omega, by omega⟩ rfl HIR.out HCR.out).mono ?_; rw [HEQ.out]; rintro e w4 ⟨rfl, hE4⟩)
        have HE4 := hide (HER.out.trans hE4)
        clear hE4
        go_roundw
        case rel => exact ⟨k + 1, by omega, by go_num, by rw [HS2.out]; go_num, HE4.out⟩
        case measure => (simp [intOf] <;> omega)
      · rw [if_neg e] at HS2
        have HEQ := hide (decide_eq_false e)
        clear e
        generalize playsOf (gs.take k) a = L at *
        go_wp2_with (go_at_call 135; refine (playsOne_any _ _ _ u v _ a _ ⟨by omega, by omega⟩ rfl HIR.out HCR.out).mono ?_; rw [HEQ.out]; rintro e w4 ⟨rfl, hE4⟩)
        have HE4 := hide (HER.out.trans hE4)
        clear hE4
        go_roundw
        case rel => exact ⟨k + 1, by omega, by go_num, by rw [HS2.out]; go_num, HE4.out⟩
        case measure => (simp [intOf] <;> omega)
    · have hke : k = m := by omega
      subst hke
      go_wp2
      go_ret
      exact ⟨ret_int (by rw [HGS.out, take_len HGL.out]), HE3.out.trans HER.out⟩
-- impl.DefeatsOf and impl.GamesOf impl.DefeatsOf
theorem iDefeats_any (s : Int) (A : Option Addr) (n c : Nat) (xs : List Int) (a : Int) (w : World) (h : Ints w A n c xs) :
    Calls Try.prog 68 #[.agg #[.int .i64 s, .slice A n c], .int .i64 a] w fun e w' => e = .returned (.int .i64 (defD s xs a)) ∧ Ext w w' := by
  have HI := hide h
  have hmf : ∀ (fn : Fn) (first cap : Array Value) (w : World), (Instr.makeFunc fn first cap).run Try.prog w = .ok (.func fn first cap) w := fun _ _ _ _ => rfl
  obtain ⟨W, hW⟩ : ∃ W : World, W = (w.alloc (.cells #[.int .i64 s, .slice A n c] 33)).alloc (.cells #[.int .i64 a] 3) := ⟨_, rfl⟩
  have HE := hide (show Ext w W by rw [hW]; exact (Ext.one _ _).trans (Ext.one _ _))
  have B0 := hide (show W.cell? ⟨w.heap.size, 0, none⟩ = some (.int .i64 s) by rw [hW]; exact (Ext.one _ _).get (by simp))
  have B1 := hide (show W.cell? ⟨w.heap.size, 1, none⟩ = some (.slice A n c) by rw [hW]; exact (Ext.one _ _).get (by simp))
  have B2 := hide (show W.cell? ⟨w.heap.size + 1, 0, none⟩ = some (.int .i64 a) by rw [hW]; simp)
  have HW := hide hW
  clear hW h
  by_cases ht : tourOk s xs
  · have HT := hide ht
    have hs8 : 1 ≤ s ∧ s ≤ 8 := by have := tourOk_size ht; omega
    by_cases ha : 0 ≤ a ∧ a ≤ s - 1
    · have HA := hide ha
      have HV := hide (show defD s xs a = (lossOf (gamesOf s xs) a : Int) from if_pos ⟨ht, ha⟩)
      clear ht ha
      go_enter Try.func68, Try.ntmps68
      go_wp2_with fail
      rw [← HW.out]
      refine (iTourOk_any _ _ _ _ xs _ (HI.out.ext HE.out)).mono ?_
      rw [decide_eq_true HT.out]
      rintro e w1 ⟨rfl, hE1⟩
      have d0 := hE1.get B0.out
      have d1 := hE1.get B1.out
      have d2 := hE1.get B2.out
      have HE1 := hide (HE.out.trans hE1)
      clear hE1
      go_wp2_with fail
      refine (has_any _ _ _ _ _ _ ⟨by omega, by omega⟩).mono ?_
      rw [decide_eq_true HA.out]
      rintro e w2 ⟨rfl, hE2⟩
      have e0 := hE2.get d0
      have e1 := hE2.get d1
      have E2 := hide (hE2.get d2)
      have HE2 := hide (HE1.out.trans hE2)
      clear hE2 d0 d1 d2
      go_wp2_with (go_at_call 133; refine (lostOneCount_any s A n c xs (w.heap.size + 1) a _ HT.out (HI.out.ext HE2.out) E2.out).mono ?_; rintro e w3 ⟨rfl, hE3⟩)
      go_ret
      exact ⟨ret_int HV.out.symm, HE2.out.trans hE3⟩
    · have HA := hide ha
      have HV := hide (show defD s xs a = -1 from if_neg fun hh => ha hh.2)
      clear ht ha
      go_enter Try.func68, Try.ntmps68
      go_wp2_with fail
      rw [← HW.out]
      refine (iTourOk_any _ _ _ _ xs _ (HI.out.ext HE.out)).mono ?_
      rw [decide_eq_true HT.out]
      rintro e w1 ⟨rfl, hE1⟩
      have d0 := hE1.get B0.out
      have d1 := hE1.get B1.out
      have d2 := hE1.get B2.out
      have HE1 := hide (HE.out.trans hE1)
      clear hE1
      go_wp2_with fail
      refine (has_any _ _ _ _ _ _ ⟨by omega, by omega⟩).mono ?_
      rw [decide_eq_false HA.out]
      rintro e w2 ⟨rfl, hE2⟩
      go_wp2
      go_ret
      exact ⟨ret_int HV.out.symm, HE1.out.trans hE2⟩
  · have HT := hide ht
    have HV := hide (show defD s xs a = -1 from if_neg fun hh => ht hh.1)
    clear ht
    go_enter Try.func68, Try.ntmps68
    go_wp2_with fail
    rw [← HW.out]
    refine (iTourOk_any _ _ _ _ xs _ (HI.out.ext HE.out)).mono ?_
    rw [decide_eq_false HT.out]
    rintro e w1 ⟨rfl, hE1⟩
    go_wp2
    go_ret
    exact ⟨ret_int HV.out.symm, HE.out.trans hE1⟩
-- impl.DefeatsOf and impl.GamesOf impl.GamesOf
theorem iGames_any (s : Int) (A : Option Addr) (n c : Nat) (xs : List Int) (a : Int) (w : World) (h : Ints w A n c xs) :
    Calls Try.prog 69 #[.agg #[.int .i64 s, .slice A n c], .int .i64 a] w fun e w' => e = .returned (.int .i64 (gamD s xs a)) ∧ Ext w w' := by
  have HI := hide h
  have hmf : ∀ (fn : Fn) (first cap : Array Value) (w : World), (Instr.makeFunc fn first cap).run Try.prog w = .ok (.func fn first cap) w := fun _ _ _ _ => rfl
  obtain ⟨W, hW⟩ : ∃ W : World, W = (w.alloc (.cells #[.int .i64 s, .slice A n c] 33)).alloc (.cells #[.int .i64 a] 3) := ⟨_, rfl⟩
  have HE := hide (show Ext w W by rw [hW]; exact (Ext.one _ _).trans (Ext.one _ _))
  have B0 := hide (show W.cell? ⟨w.heap.size, 0, none⟩ = some (.int .i64 s) by rw [hW]; exact (Ext.one _ _).get (by simp))
  have B1 := hide (show W.cell? ⟨w.heap.size, 1, none⟩ = some (.slice A n c) by rw [hW]; exact (Ext.one _ _).get (by simp))
  have B2 := hide (show W.cell? ⟨w.heap.size + 1, 0, none⟩ = some (.int .i64 a) by rw [hW]; simp)
  have HW := hide hW
  clear hW h
  by_cases ht : tourOk s xs
  · have HT := hide ht
    have hs8 : 1 ≤ s ∧ s ≤ 8 := by have := tourOk_size ht; omega
    by_cases ha : 0 ≤ a ∧ a ≤ s - 1
    · have HA := hide ha
      have HV := hide (show gamD s xs a = (playsOf (gamesOf s xs) a : Int) from if_pos ⟨ht, ha⟩)
      clear ht ha
      go_enter Try.func69, Try.ntmps69
      go_wp2_with fail
      rw [← HW.out]
      refine (iTourOk_any _ _ _ _ xs _ (HI.out.ext HE.out)).mono ?_
      rw [decide_eq_true HT.out]
      rintro e w1 ⟨rfl, hE1⟩
      have d0 := hE1.get B0.out
      have d1 := hE1.get B1.out
      have d2 := hE1.get B2.out
      have HE1 := hide (HE.out.trans hE1)
      clear hE1
      go_wp2_with fail
      refine (has_any _ _ _ _ _ _ ⟨by omega, by omega⟩).mono ?_
      rw [decide_eq_true HA.out]
      rintro e w2 ⟨rfl, hE2⟩
      have e0 := hE2.get d0
      have e1 := hE2.get d1
      have E2 := hide (hE2.get d2)
      have HE2 := hide (HE1.out.trans hE2)
      clear hE2 d0 d1 d2
      go_wp2_with (go_at_call 133; refine (playsOneCount_any s A n c xs (w.heap.size + 1) a _ HT.out (HI.out.ext HE2.out) E2.out).mono ?_; rintro e w3 ⟨rfl, hE3⟩)
      go_ret
      exact ⟨ret_int HV.out.symm, HE2.out.trans hE3⟩
    · have HA := hide ha
      have HV := hide (show gamD s xs a = -1 from if_neg fun hh => ha hh.2)
      clear ht ha
      go_enter Try.func69, Try.ntmps69
      go_wp2_with fail
      rw [← HW.out]
      refine (iTourOk_any _ _ _ _ xs _ (HI.out.ext HE.out)).mono ?_
      rw [decide_eq_true HT.out]
      rintro e w1 ⟨rfl, hE1⟩
      have d0 := hE1.get B0.out
      have d1 := hE1.get B1.out
      have d2 := hE1.get B2.out
      have HE1 := hide (HE.out.trans hE1)
      clear hE1
      go_wp2_with fail
      refine (has_any _ _ _ _ _ _ ⟨by omega, by omega⟩).mono ?_
      rw [decide_eq_false HA.out]
      rintro e w2 ⟨rfl, hE2⟩
      go_wp2
      go_ret
      exact ⟨ret_int HV.out.symm, HE1.out.trans hE2⟩
  · have HT := hide ht
    have HV := hide (show gamD s xs a = -1 from if_neg fun hh => ht hh.1)
    clear ht
    go_enter Try.func69, Try.ntmps69
    go_wp2_with fail
    rw [← HW.out]
    refine (iTourOk_any _ _ _ _ xs _ (HI.out.ext HE.out)).mono ?_
    rw [decide_eq_false HT.out]
    rintro e w1 ⟨rfl, hE1⟩
    go_wp2
    go_ret
    exact ⟨ret_int HV.out.symm, HE.out.trans hE1⟩
-- WasReset words
def resetD (s : Int) (xs : List Int) : Prop := tourOk s xs ∧ 0 < lossOf (gamesOf s xs) (winD s xs)
instance (s : Int) (xs : List Int) : Decidable (resetD s xs) := by unfold resetD; infer_instance
theorem defD_win {s : Int} {xs : List Int} (h : tourOk s xs) : defD s xs (winD s xs) = (lossOf (gamesOf s xs) (winD s xs) : Int) := if_pos ⟨h, winD_in h⟩
-- WasReset both impl.WasReset
theorem iReset_any (s : Int) (A : Option Addr) (n c : Nat) (xs : List Int) (w : World) (h : Ints w A n c xs) :
    Calls Try.prog 67 #[.agg #[.int .i64 s, .slice A n c]] w fun e w' => e = .returned (.bool (decide (resetD s xs))) ∧ Ext w w' := by
  have HI := hide h
  obtain ⟨W, hW⟩ : ∃ W : World, W = w.alloc (.cells #[.int .i64 s, .slice A n c] 33) := ⟨_, rfl⟩
  have HE := hide (show Ext w W by rw [hW]; exact Ext.one _ _)
  have B0 := hide (show W.cell? ⟨w.heap.size, 0, none⟩ = some (.int .i64 s) by rw [hW]; simp)
  have B1 := hide (show W.cell? ⟨w.heap.size, 1, none⟩ = some (.slice A n c) by rw [hW]; simp)
  have HW := hide hW
  clear hW h
  by_cases ht : tourOk s xs
  · have HT := hide ht
    have HD := hide (show decide (resetD s xs) = decide (0 < (lossOf (gamesOf s xs) (winD s xs) : Int)) by rw [decide_eq_decide]; exact ⟨fun hh => by have := hh.2; omega, fun hh => ⟨ht, by omega⟩⟩)
    have CT := hide (fun (e : After W) => iTourOk_any s A n c xs _ (HI.out.ext (HE.out.trans e.property)))
    rw [decide_eq_true ht] at CT
    have CW := hide (fun (e : After W) => iWinner2_any s A n c xs _ (HI.out.ext (HE.out.trans e.property)))
    have CL := hide (fun (e : After W) => (iDefeats_any s A n c xs (winD s xs) _ (HI.out.ext (HE.out.trans e.property))))
    try rw [defD_win ht] at CL
    clear ht
    generalize lossOf (gamesOf s xs) (winD s xs) = L at *
    generalize winD s xs = x at *
    go_enter Try.func67, Try.ntmps67
    go_wp2
    rw [← HW.out]
    have d0 := after_cell B0.out
    have d1 := after_cell B1.out
    refine wp_region_ext (by kernel_rfl) (by kernel_rfl) ?_
    repeat (go_big_quiet_step ((first | (go_at_call 93; exact after_call (CT.out _)) | (go_at_call 65; exact after_call (CW.out _)) | (go_at_call 68; exact after_call (CL.out _)))))
    refine wpQuiet_nil ?_
    rintro w5 ⟨⟨w5, hE5⟩, rfl⟩
    go_wp2
    go_ret
    exact ⟨ret_bool (by rw [HD.out]; simp), HE.out.trans hE5⟩
  · have HT := hide ht
    have HV := hide (show decide (resetD s xs) = false from decide_eq_false fun hh => ht hh.1)
    have CT := hide (fun (e : After W) => iTourOk_any s A n c xs _ (HI.out.ext (HE.out.trans e.property)))
    rw [decide_eq_false ht] at CT
    clear ht
    go_enter Try.func67, Try.ntmps67
    go_wp2
    rw [← HW.out]
    have d0 := after_cell B0.out
    have d1 := after_cell B1.out
    refine wp_region_ext (by kernel_rfl) (by kernel_rfl) ?_
    repeat (go_big_quiet_step ((go_at_call 93; exact after_call (CT.out _))))
    refine wpQuiet_nil ?_
    rintro w5 ⟨⟨w5, hE5⟩, rfl⟩
    go_wp2
    go_ret
    exact ⟨ret_bool HV.out.symm, HE.out.trans hE5⟩

end Go.Proofs.Ytbaljgdepicigaa
