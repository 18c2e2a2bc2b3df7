/-
  Contracts of the functions that tell whether two brackets are the same.
-/
import Derived.Laws.ShiftsVar
import Derived.Deep.RegionHeld3
import Derived.Deep.RegionWith
import Derived.Test.YtbaljgdepicigaaDoorBase
import Derived.Test.YtbaljgdepicigaaDoorMgA
import Derived.Test.YtbaljgdepicigaaDoorLib
import Derived.Test.YtbaljgdepicigaaDoorAid
import Derived.Test.YtbaljgdepicigaaDoorStep
import Derived.Test.YtbaljgdepicigaaDoorGrid
import Derived.Test.YtbaljgdepicigaaDoorLibF
import Derived.Test.YtbaljgdepicigaaDoorPop
import Derived.Test.YtbaljgdepicigaaDoorSeed
import Derived.Test.YtbaljgdepicigaaDoorDblB
import Derived.Test.YtbaljgdepicigaaDoorDblD
import Derived.Test.YtbaljgdepicigaaDoorBrack
import Derived.Test.YtbaljgdepicigaaDoorWin
namespace Go.Proofs.YtbaljgdepicigaaDoor
open Go.RowKit
set_option linter.unusedVariables false

-- words of the same bracket
/-- A slice of ints comes back, new or not. -/
def RetR (w : World) (xs : List Int) (e : Ending) (w' : World) : Prop := ∃ A c, e = .returned (.slice A xs.length c) ∧ Ints w' A xs.length c xs ∧ Ext w w'
theorem RetR.mk {w w' : World} {xs : List Int} {e : Ending} {A : Option Addr} {n c : Nat} (he : e = .returned (.slice A n c)) (ho : Ints w' A n c xs) (hE : Ext w w') : RetR w xs e w' := by
  have hl := ho.len
  subst hl
  exact ⟨A, c, he, ho, hE⟩
theorem grid2 {w : World} {A1 A2 : Option Addr} {n1 c1 n2 c2 : Nat} {xs ys : List Int} (h1 : Ints w A1 n1 c1 xs) (h2 : Ints w A2 n2 c2 ys) :
    Grid (w.alloc (.cells #[.slice A1 n1 c1, .slice A2 n2 c2] 23)) (some ⟨w.heap.size, 0, none⟩) 2 2 [xs, ys] := by
  have hE := Ext.one w (.cells #[.slice A1 n1 c1, .slice A2 n2 c2] 23)
  refine ⟨[(A1, n1, c1), (A2, n2, c2)], ⟨rfl, Nat.le_refl _, by omega, fun _ => ⟨w.heap.size, 0, rfl, by simp, fun k v hv => ?_⟩⟩, rfl, fun i x r hx hr => ?_⟩
  · match k with
    | 0 => simp [sv] at hv; subst hv; simp
    | 1 => simp [sv] at hv; subst hv; simp
    | k + 2 => simp at hv
  · match i with
    | 0 => simp at hx hr; subst hx hr; exact h1.ext hE
    | 1 => simp at hx hr; subst hx hr; exact h2.ext hE
    | i + 2 => simp at hx
-- impl.setOf
theorem setOf_any (A : Option Addr) (n c : Nat) (xs : List Int) (w : World) (h : Ints w A n c xs) (hb : ∀ x ∈ xs, 0 ≤ x ∧ x < 8) :
    Calls Tryd.prog 84 #[.slice A n c] w fun e w' => e = .returned (.int .i64 (orN xs : Int)) ∧ w = w' := by
  have HI := hide h
  have HL := hide h.len
  have hle := h.le
  have hmx := h.max
  have HB := hide hb
  clear h hb
  go_enter Tryd.func84, Tryd.ntmps84
  go_wp2
  go_loop [3, 8] (fun m i => ∃ k : Nat, k ≤ n ∧ i = .int .i64 (k : Int) ∧ m = .int .i64 (orN (xs.take k) : Int)) (fun _ i => n - (intOf i).toNat)
  case atStart => exact ⟨0, Nat.zero_le _, rfl, by simp [orN]⟩
  case round =>
    obtain ⟨k, hk, rfl, rfl⟩ := hrel
    by_cases hlt : k < n
    · obtain ⟨b, off, x, rfl, hbl, hx, wx, hc⟩ := HI.out.get hlt
      have hxb := HB.out x (List.mem_of_getElem? hx)
      obtain ⟨a, rfl⟩ : ∃ a : Nat, x = (a : Int) := ⟨x.toNat, by omega⟩
      have hlo := (orN_bits (xs.take k) fun y hy => HB.out y (List.mem_of_mem_take hy)).1
      have HS := hide (show orN (xs.take (k + 1)) = orN (xs.take k) ||| 2 ^ a by rw [take_snoc_of hx, orN_snoc]; simp)
      clear hx
      generalize orN (xs.take k) = m at *
      have HOR := or_shl m a hlo (by omega)
      go_wp2
      go_round
      case rel => exact ⟨k + 1, by omega, by go_num, by rw [HS.out]⟩
      case measure => (simp [intOf] <;> omega)
    · have hke : k = n := by omega
      subst hke
      go_wp2
      go_ret
      exact ⟨ret_int (by rw [take_len HL.out]), rfl⟩
-- impl.isFull
theorem iIsFull_any (A : Option Addr) (n c : Nat) (xs : List Int) (w : World) (h : Ints w A n c xs) :
    Calls Tryd.prog 55 #[.slice A n c] w fun e w' => e = .returned (.bool (decide (isFull xs))) ∧ Ext w w' := by
  have HI := hide h
  have HL := hide h.len
  clear h
  by_cases h1 : brkSize (n : Int)
  · have H1 := hide h1
    have hn8 : 1 ≤ n ∧ n ≤ 8 := by unfold brkSize at h1; omega
    by_cases h2 : ∀ x ∈ xs, 0 ≤ x ∧ x ≤ 7
    · have H2 := hide h2
      have hb8 : ∀ x ∈ xs, 0 ≤ x ∧ x < 8 := fun x hx => by have := h2 x hx; omega
      have HB8 := hide hb8
      have hlo := (orN_bits xs hb8).1
      have hpc := orN_pc xs hb8
      have HV := hide (show decide (isFull xs) = decide ((pc (orN xs) : Int) = (n : Int)) by
        rw [decide_eq_decide]
        have hl := HL.out
        constructor
        · intro hh; have := hpc.2.2 hh.2.2; omega
        · intro hh; exact ⟨by rw [hl]; exact H1.out, h2, hpc.2.1 (by omega)⟩)
      clear h1 h2 hb8 hpc
      have HOR := hide (show orN xs = orN xs from rfl)
      go_enter Tryd.func55, Tryd.ntmps55
      go_wp2_with (first | (go_at_call 45; refine (isBracketSize_any _ _).mono ?_; rw [decide_eq_true H1.out]; rintro e w' ⟨rfl, rfl⟩) | (go_at_call 52; refine (allWithin_any _ _ _ xs _ _ _ HI.out).mono ?_; rw [decide_eq_true H2.out]; rintro e w1 ⟨rfl, hE1⟩) | (go_at_call 84; refine (setOf_any _ _ _ xs _ (HI.out.ext hE1) HB8.out).mono ?_; rintro e w' ⟨rfl, rfl⟩) | (go_at_call 46; refine (OnesCount_small (orN xs) hlo _).mono ?_; rintro e w' ⟨rfl, rfl⟩))
      go_ret
      exact ⟨ret_bool (by rw [HV.out]; first | rfl | (rw [Bool.eq_iff_iff, beq_iff_eq, decide_eq_true_eq]) | simp), hE1⟩
    · have H2 := hide h2
      have HV := hide (show decide (isFull xs) = false from decide_eq_false fun hh => h2 hh.2.1)
      clear h1 h2
      go_enter Tryd.func55, Tryd.ntmps55
      go_wp2_with (first | (go_at_call 45; refine (isBracketSize_any _ _).mono ?_; rw [decide_eq_true H1.out]; rintro e w' ⟨rfl, rfl⟩) | (go_at_call 52; refine (allWithin_any _ _ _ xs _ _ _ HI.out).mono ?_; rw [decide_eq_false H2.out]; rintro e w1 ⟨rfl, hE1⟩))
      go_ret
      exact ⟨ret_bool HV.out.symm, hE1⟩
  · have H1 := hide h1
    have HV := hide (show decide (isFull xs) = false from decide_eq_false fun hh => h1 (by have := hh.1; rwa [HL.out] at this))
    clear h1
    go_enter Tryd.func55, Tryd.ntmps55
    go_wp2_with (go_at_call 45; refine (isBracketSize_any _ _).mono ?_; rw [decide_eq_false H1.out]; rintro e w' ⟨rfl, rfl⟩)
    go_ret
    exact ⟨ret_bool HV.out.symm, Ext.refl _⟩
-- slices.Equal
theorem Equal_any (A : Option Addr) (n c : Nat) (xs : List Int) (A2 : Option Addr) (n2 c2 : Nat) (ys : List Int) (w : World) (h : Ints w A n c xs) (h2 : Ints w A2 n2 c2 ys) :
    Calls Tryd.prog 56 #[.slice A n c, .slice A2 n2 c2] w fun e w' => e = .returned (.bool (decide (xs = ys))) ∧ Ext w w' := by
  have HL := hide h.len
  have HL2 := hide h2.len
  have hle := h.le
  have hmx := h.max
  by_cases hnn : n = n2
  · subst hnn
    go_enter Tryd.func56, Tryd.ntmps56
    go_wp2
    go_loopw [13] (fun i wr => ∃ k : Nat, k ≤ n ∧ i = .int .i64 k ∧ Hid (xs.take k = ys.take k) ∧ Qt w wr) (fun i _ => n - (intOf i).toNat)
    case atStart => exact ⟨0, Nat.zero_le _, rfl, hide (by simp), Qt.refl _⟩
    case round =>
      obtain ⟨k, hk, rfl, HT, hE⟩ := hrel
      by_cases hlt : k < n
      · obtain ⟨b, off, x, rfl, hb, hx, wx, hc⟩ := (h.ext hE.ext).get hlt
        obtain ⟨b', off', y, rfl, hb', hy, wy, hc'⟩ := (h2.ext hE.ext).get hlt
        have HX := hide hx; clear hx
        have HY := hide hy; clear hy
        have HE := hide hE; clear hE
        go_wp2
        go_quiet (fail)
        go_wp2
        · have e : x ≠ y := by simpa using ‹(x != y) = true›
          go_ret
          exact ⟨ret_bool (by symm; rw [decide_eq_false_iff_not]; rintro rfl; have := HX.out.symm.trans HY.out; simp at this; exact e this), (HE.out.drewN _).ext⟩
        · have e : x = y := by simpa using ‹(x != y) = false›
          subst e
          go_roundw
          case rel => exact ⟨k + 1, by omega, by go_num, hide (by rw [take_snoc_of HX.out, take_snoc_of HY.out, HT.out]), HE.out.drewN _⟩
          case measure => (simp [intOf] <;> omega)
      · have : k = n := by omega
        subst this
        have HE := hide hE; clear hE
        go_wp2
        go_ret
        exact ⟨ret_bool (by symm; rw [decide_eq_true_eq]; have := HT.out; rwa [take_len HL.out, take_len HL2.out] at this), HE.out.ext⟩
  · have hne : ((n : Int) != (n2 : Int)) = true := by rw [bne_iff_ne]; omega
    go_enter Tryd.func56, Tryd.ntmps56
    go_wp2
    go_ret
    exact ⟨ret_bool (by symm; rw [decide_eq_false_iff_not]; rintro rfl; exact hnn (HL.out.symm.trans HL2.out)), Ext.refl _⟩
-- impl.leastBracket
theorem leastB_any (k : Nat) : ∀ (A : Option Addr) (n c : Nat) (xs : List Int) (w : World), Ints w A n c xs → n = pw2 k → k ≤ 3 →
    Calls Tryd.prog 57 #[.slice A n c] w (RetR w (formB k xs)) := by
  induction k with
  | zero =>
    intro A n c xs w h hn hk
    have HI := hide h
    obtain rfl : n = 1 := hn
    clear h
    go_enter Tryd.func57, Tryd.ntmps57
    go_wp2
    go_ret
    exact RetR.mk rfl HI.out (Ext.refl _)
  | succ k ih =>
    intro A n c xs w h hn hk
    have IH := hide ih
    obtain ⟨m, hm⟩ : ∃ m, m = pw2 k := ⟨_, rfl⟩
    have hm4 : 1 ≤ m ∧ m ≤ 4 := by
      have : k = 0 ∨ k = 1 ∨ k = 2 := by omega
      rcases this with rfl | rfl | rfl <;> simp [pw2] at hm <;> omega
    have hn2 : n = 2 * m := by simp only [pw2] at hn; omega
    have hbe : ((n : Int) == 1) = false := by rw [beq_eq_false_iff_ne]; omega
    have hq : (n : Int) / 2 = (m : Int) := by omega
    have hmn : m ≤ n := by omega
    have hmni : (m : Int) ≤ (n : Int) := by omega
    have HM := hide hm
    have HN2 := hide hn2
    have HT := hide (h.take hmn)
    have HDr := hide (h.tail hmn)
    have hle := h.le
    have hmx := h.max
    have hln := h.len
    have HFX := hide (show formB (k + 1) xs = joinB (formB k (xs.take m)) (formB k (xs.drop m)) by rw [hm]; rfl)
    have HLX := hide (show (formB k (xs.take m)).length = m by rw [formB_len k _ (by simp; omega), hm])
    have HLY := hide (show (formB k (xs.drop m)).length = m by rw [formB_len k _ (by simp; omega), hm])
    have htl := run_tail_int A n c m hmn (m : Int) rfl
    have HK := hide hk
    have hnm : n - m = m := by omega
    rw [hnm] at HDr htl
    have hq2 : Int.tdiv (n : Int) 2 = (m : Int) := by rw [Int.tdiv_eq_ediv_of_nonneg (by omega)]; exact hq
    have hwm : IntKind.i64.wrap (m : Int) = (m : Int) := by rw [IntKind.wrap_i64]; omega
    have hm0 : (0 : Int) ≤ (m : Int) := by omega
    have IH2 := hide (show ∀ (A' : Option Addr) (n' c' : Nat) (zs : List Int) (w' : World), Ints w' A' n' c' zs → n' = m → Calls Tryd.prog 57 #[.slice A' n' c'] w' (RetR w' (formB k zs)) from fun A' n' c' zs w' h' hn' => ih A' n' c' zs w' h' (by omega) (by omega))
    clear h ih hn hn2 hm hk hln hnm
    go_enter Tryd.func57, Tryd.ntmps57
    go_wp2
    go_region_with (first
      | (go_at_call 57; refine Calls.mono (IH2.out _ _ _ (xs.take m) _ ?_ rfl) ?_; exact (HT.out.ext (Ext.refl _).drew); rintro e wa ⟨B1, d1, rfl, h1, hEa⟩; rw [HLX.out] at h1 ⊢)
      | (go_at_call 57; refine Calls.mono (IH2.out _ _ _ (xs.drop m) _ ?_ rfl) ?_; exact (HDr.out.ext ((Ext.refl _).drew.trans hEa)); rintro e wz ⟨B2, d2, rfl, h2z, hEz⟩; rw [HLY.out] at h2z ⊢; have h1z := h1.ext hEz)
      | (go_at_call 57; refine Calls.mono (IH2.out _ _ _ (xs.drop m) _ ?_ rfl) ?_; exact (HDr.out.ext (Ext.refl _).drew); rintro e wa ⟨B2, d2, rfl, h2, hEa⟩; rw [HLY.out] at h2 ⊢)
      | (go_at_call 57; refine Calls.mono (IH2.out _ _ _ (xs.take m) _ ?_ rfl) ?_; exact (HT.out.ext ((Ext.refl _).drew.trans hEa)); rintro e wz ⟨B1, d1, rfl, h1z, hEz⟩; rw [HLX.out] at h1z ⊢; have h2z := h2.ext hEz))
    all_goals (
      have HE2 := hide ((Ext.refl w).drew.trans (hEa.trans hEz))
      have HJ1 := hide h1z
      have HI2 := hide h2z
      generalize formB k (xs.take m) = fx at *
      generalize formB k (xs.drop m) = fy at *
      obtain ⟨b1, o1, x, rfl, hb1, hx, wx, hcx⟩ := HJ1.out.get (k := 0) (by omega)
      obtain ⟨b2, o2, y, rfl, hb2, hy, wy, hcy⟩ := HI2.out.get (k := 0) (by omega)
      have HGX := hide (getD_of hx)
      have HGY := hide (getD_of hy)
      have hm0n : 0 < m := by omega
      have hm0i : (0 : Int) < (m : Int) := by omega
      simp only [Nat.add_zero] at hcx hcy
      clear hx hy htl hEa hEz h1z h2z
      try clear h1
      try clear h2
      by_cases hlt : y < x
      · have HJ := hide (joinB_yes (x := fx) (y := fy) (by rw [HGX.out, HGY.out]; exact hlt))
        go_wp2
        go_quiet (fail)
        obtain ⟨w3, hw3⟩ : ∃ w3 : World, w3 = wz.drewN nq := ⟨_, rfl⟩
        have HE3 := hide (show Ext wz w3 by rw [hw3]; exact (Ext.refl _).drewN _)
        rw [← hw3]
        clear hw3
        have HGR := hide (grid2 (HI2.out.ext HE3.out) (HJ1.out.ext HE3.out))
        go_wp2_with (go_at_call 85; refine (Concat_eq _ _ _ [fy, fx] (fy ++ fx) _ (by simp) HGR.out (by simp [tot]; have := HLX.out; have := HLY.out; omega)).mono ?_; rintro e w4 ⟨B4, d4, rfl, ho4, hE4⟩)
        go_ret
        exact RetR.mk rfl (by rw [HFX.out, HJ.out]; rw [List.length_append] at ho4; exact ho4.ints) (HE2.out.trans (HE3.out.trans ((Ext.one _ _).trans hE4)))
      · have HJ := hide (joinB_no (x := fx) (y := fy) (by rw [HGX.out, HGY.out]; exact hlt))
        go_wp2
        go_quiet (fail)
        obtain ⟨w3, hw3⟩ : ∃ w3 : World, w3 = wz.drewN nq := ⟨_, rfl⟩
        have HE3 := hide (show Ext wz w3 by rw [hw3]; exact (Ext.refl _).drewN _)
        rw [← hw3]
        clear hw3
        have HGR := hide (grid2 (HJ1.out.ext HE3.out) (HI2.out.ext HE3.out))
        go_wp2_with (go_at_call 85; refine (Concat_eq _ _ _ [fx, fy] (fx ++ fy) _ (by simp) HGR.out (by simp [tot]; have := HLX.out; have := HLY.out; omega)).mono ?_; rintro e w4 ⟨B4, d4, rfl, ho4, hE4⟩)
        go_ret
        exact RetR.mk rfl (by rw [HFX.out, HJ.out]; rw [List.length_append] at ho4; exact ho4.ints) (HE2.out.trans (HE3.out.trans ((Ext.one _ _).trans hE4))))
-- SameBracket words
theorem full_size {xs : List Int} {n : Nat} (h : isFull xs) (hl : xs.length = n) : n = pw2 (lg (n : Int)) ∧ lg (n : Int) ≤ 3 := by
  have h1 := h.1
  rw [hl] at h1
  have h2 := brk_pw2 h1
  omega
-- SameBracket both impl.SameBracket
theorem iSame_any (A : Option Addr) (n c : Nat) (xs : List Int) (A2 : Option Addr) (n2 c2 : Nat) (ys : List Int) (w : World) (h : Ints w A n c xs) (h2 : Ints w A2 n2 c2 ys) :
    Calls Tryd.prog 14 #[.slice A n c, .slice A2 n2 c2] w fun e w' => e = .returned (.bool (decide (sameBracket xs ys))) ∧ Ext w w' := by
  have HI := hide h
  have HI2 := hide h2
  have HL := hide h.len
  have HL2 := hide h2.len
  have COK := hide (show ∀ (A' : Option Addr) (n' c' : Nat) (zs : List Int) (w' : World), Ints w' A' n' c' zs → Calls Tryd.prog 55 #[.slice A' n' c'] w' fun e w'' => e = .returned (.bool (decide (isFull zs))) ∧ Ext w' w'' from iIsFull_any)
  clear h h2
  by_cases h1 : isFull xs
  · have H1 := hide h1
    by_cases h2 : isFull ys
    · have H2 := hide h2
      by_cases h3 : n = n2
      · subst h3
        have hp := full_size h1 HL.out
        have HP := hide hp
        have HSB := hide (show decide (sameBracket xs ys) = decide (formB (lg (n : Int)) xs = formB (lg (n : Int)) ys) by
          rw [decide_eq_decide]
          have e1 := HL.out
          have e2 := HL2.out
          constructor
          · intro hh; have := hh.2.2.2; rwa [e1, e2] at this
          · intro hh; exact ⟨h1, h2, by omega, by rw [e1, e2]; exact hh⟩)
        have hbn : ((n : Int) != (n : Int)) = false := by simp
        clear h1 h2 hp
        have CF := hide (show ∀ (A' : Option Addr) (n' c' : Nat) (zs : List Int) (w' : World), Ints w' A' n' c' zs → n' = n → Calls Tryd.prog 57 #[.slice A' n' c'] w' (RetR w' (formB (lg (n : Int)) zs)) from fun A' n' c' zs w' h' hn' => leastB_any _ A' n' c' zs w' h' (by have := HP.out.1; omega) HP.out.2)
        clear HP
        generalize lg (n : Int) = lk at *
        go_enter Tryd.func14, Tryd.ntmps14
        go_wp2_with (first
          | (go_at_call 55; refine Calls.mono (COK.out _ _ _ ys _ ?_) ?_; exact HI2.out.ext hE1; rw [decide_eq_true H2.out]; rintro e w2 ⟨rfl, hE2⟩)
          | (go_at_call 55; refine Calls.mono (COK.out _ _ _ xs _ ?_) ?_; exact HI.out; rw [decide_eq_true H1.out]; rintro e w1 ⟨rfl, hE1⟩)
          | (go_at_call 57; refine Calls.mono (CF.out _ _ _ ys _ ?_ rfl) ?_; exact HI2.out.ext (hE1.trans (hE2.trans hE3)); rintro e w4 ⟨B4, d4, rfl, h4, hE4⟩)
          | (go_at_call 57; refine Calls.mono (CF.out _ _ _ xs _ ?_ rfl) ?_; exact HI.out.ext (hE1.trans hE2); rintro e w3 ⟨B3, d3, rfl, h3, hE3⟩)
          | (go_at_call 56; refine (Equal_any _ _ _ _ _ _ _ _ _ (h3.ext hE4) h4).mono ?_; rintro e w5 ⟨rfl, hE5⟩))
        go_ret
        exact ⟨ret_bool HSB.out.symm, hE1.trans (hE2.trans (hE3.trans (hE4.trans hE5)))⟩
      · have HV := hide (show decide (sameBracket xs ys) = false from decide_eq_false fun hh => h3 (by have := hh.2.2.1; have := HL.out; have := HL2.out; omega))
        have hne : ((n : Int) != (n2 : Int)) = true := by rw [bne_iff_ne]; omega
        have hne2 : ((n : Int) == (n2 : Int)) = false := by rw [beq_eq_false_iff_ne]; omega
        clear h1 h2 h3
        go_enter Tryd.func14, Tryd.ntmps14
        go_wp2_with (first
          | (go_at_call 55; refine Calls.mono (COK.out _ _ _ ys _ ?_) ?_; exact HI2.out.ext hE1; rw [decide_eq_true H2.out]; rintro e w2 ⟨rfl, hE2⟩)
          | (go_at_call 55; refine Calls.mono (COK.out _ _ _ xs _ ?_) ?_; exact HI.out; rw [decide_eq_true H1.out]; rintro e w1 ⟨rfl, hE1⟩))
        go_ret
        exact ⟨ret_bool HV.out.symm, hE1.trans hE2⟩
    · have H2 := hide h2
      have HV := hide (show decide (sameBracket xs ys) = false from decide_eq_false fun hh => h2 hh.2.1)
      clear h1 h2
      go_enter Tryd.func14, Tryd.ntmps14
      go_wp2_with (first
        | (go_at_call 55; refine Calls.mono (COK.out _ _ _ ys _ ?_) ?_; exact HI2.out.ext hE1; rw [decide_eq_false H2.out]; rintro e w2 ⟨rfl, hE2⟩)
        | (go_at_call 55; refine Calls.mono (COK.out _ _ _ xs _ ?_) ?_; exact HI.out; rw [decide_eq_true H1.out]; rintro e w1 ⟨rfl, hE1⟩))
      go_ret
      exact ⟨ret_bool HV.out.symm, hE1.trans hE2⟩
  · have H1 := hide h1
    have HV := hide (show decide (sameBracket xs ys) = false from decide_eq_false fun hh => h1 hh.1)
    clear h1
    go_enter Tryd.func14, Tryd.ntmps14
    go_wp2_with ((go_at_call 55; refine Calls.mono (COK.out _ _ _ xs _ ?_) ?_; exact HI.out; rw [decide_eq_false H1.out]; rintro e w1 ⟨rfl, hE1⟩))
    go_ret
    exact ⟨ret_bool HV.out.symm, hE1⟩

end Go.Proofs.YtbaljgdepicigaaDoor
