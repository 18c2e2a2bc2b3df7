/-
  Contracts of the functions that tell whether two brackets are the same.
-/
import Derived.Laws.ShiftsVar
import Derived.Deep.RegionHeld3
import Derived.Deep.RegionWith
import Derived.Test.YtafhcnnbiheofaaBase
import Derived.Test.YtafhcnnbiheofaaMathA
import Derived.Test.YtafhcnnbiheofaaMathD
import Derived.Test.YtafhcnnbiheofaaLib
import Derived.Test.YtafhcnnbiheofaaAid
import Derived.Test.YtafhcnnbiheofaaStep
import Derived.Test.YtafhcnnbiheofaaGrid
import Derived.Test.YtafhcnnbiheofaaLibF
import Derived.Test.YtafhcnnbiheofaaMathB
import Derived.Test.YtafhcnnbiheofaaMathU
import Derived.Test.YtafhcnnbiheofaaMathW
import Derived.Test.YtafhcnnbiheofaaMathZ
import Derived.Test.YtafhcnnbiheofaaMathY
import Derived.Test.YtafhcnnbiheofaaPop
import Derived.Test.YtafhcnnbiheofaaSeed
import Derived.Test.YtafhcnnbiheofaaDblB
import Derived.Test.YtafhcnnbiheofaaDblD
import Derived.Test.YtafhcnnbiheofaaBrack
import Derived.Test.YtafhcnnbiheofaaSame4
import Derived.Test.YtafhcnnbiheofaaWin
namespace Go.Proofs.Ytafhcnnbiheofaa
open Go.RowKit
set_option linter.unusedVariables false

-- words of the same bracket
/-- A slice of ints comes back, new or not. -/
def RetR (w : World) (xs : List Int) (e : Ending) (w' : World) : Prop := ∃ A c, e = .returned (.slice A xs.length c) ∧ Ints w' A xs.length c xs ∧ Ext w w'
theorem RetR.mk {w w' : World} {xs : List Int} {e : Ending} {A : Option Addr} {n c : Nat} (he : e = .returned (.slice A n c)) (ho : Ints w' A n c xs) (hE : Ext w w') : RetR w xs e w' := by
  have hl := ho.len
  subst hl
  exact ⟨A, c, he, ho, hE⟩
theorem grid2 {w : World} {A1 A2 : Option Addr} {n1 c1 n2 c2 : Nat} {xs ys : List Int} (h1 : Ints w A1 n1 c1 xs) (h2 : Ints w A2 n2 c2 ys) :
    Grid (w.alloc (.cells #[.slice A1 n1 c1, .slice A2 n2 c2] 22)) (some ⟨w.heap.size, 0, none⟩) 2 2 [xs, ys] := by
  have hE := Ext.one w (.cells #[.slice A1 n1 c1, .slice A2 n2 c2] 22)
  refine ⟨[(A1, n1, c1), (A2, n2, c2)], ⟨rfl, Nat.le_refl _, by omega, fun _ => ⟨w.heap.size, 0, rfl, by simp, fun k v hv => ?_⟩⟩, rfl, fun i x r hx hr => ?_⟩
  · match k with
    | 0 => simp [sv] at hv; subst hv; simp
    | 1 => simp [sv] at hv; subst hv; simp
    | k + 2 => simp at hv
  · match i with
    | 0 => simp at hx hr; subst hx hr; exact h1.ext hE
    | 1 => simp at hx hr; subst hx hr; exact h2.ext hE
    | i + 2 => simp at hx
-- impl.setOf
theorem setOf_any (A : Option Addr) (n c : Nat) (xs : List Int) (w : World) (h : Ints w A n c xs) (hb : ∀ x ∈ xs, 0 ≤ x ∧ x < 8) :
    Calls Try.prog 105 #[.slice A n c] w fun e w' => e = .returned (.int .i64 (orN xs : Int)) ∧ w = w' := by
  have HI := hide h
  have HL := hide h.len
  have hle := h.le
  have hmx := h.max
  have HB := hide hb
  clear h hb
  go_enter Try.func105, Try.ntmps105
  go_wp2
  go_loop [3, 8] (fun m i => ∃ k : Nat, k ≤ n ∧ i = .int .i64 (k : Int) ∧ m = .int .i64 (orN (xs.take k) : Int)) (fun _ i => n - (intOf i).toNat)
  case atStart => exact ⟨0, Nat.zero_le _, rfl, by simp [orN]⟩
  case round =>
    obtain ⟨k, hk, rfl, rfl⟩ := hrel
    by_cases hlt : k < n
    · obtain ⟨b, off, x, rfl, hbl, hx, wx, hc⟩ := HI.out.get hlt
      have hxb := HB.out x (List.mem_of_getElem? hx)
      obtain ⟨a, rfl⟩ : ∃ a : Nat, x = (a : Int) := ⟨x.toNat, by omega⟩
      have hlo := (orN_bits (xs.take k) fun y hy => HB.out y (List.mem_of_mem_take hy)).1
      have HS := hide (show orN (xs.take (k + 1)) = orN (xs.take k) ||| 2 ^ a by rw [take_snoc_of hx, orN_snoc]; simp)
      clear hx
      generalize orN (xs.take k) = m at *
      have HOR := or_shl m a hlo (by omega)
      go_wp2
      go_round
      case rel => exact ⟨k + 1, by omega, by go_num, by rw [HS.out]⟩
      case measure => (simp [intOf] <;> omega)
    · have hke : k = n := by omega
      subst hke
      go_wp2
      go_ret
      exact ⟨ret_int (by rw [take_len HL.out]), rfl⟩
-- impl.isFull
theorem iIsFull_any (A : Option Addr) (n c : Nat) (xs : List Int) (w : World) (h : Ints w A n c xs) :
    Calls Try.prog 52 #[.slice A n c] w fun e w' => e = .returned (.bool (decide (isFull xs))) ∧ Ext w w' := by
  have HI := hide h
  have HL := hide h.len
  clear h
  by_cases h1 : brkSize (n : Int)
  · have H1 := hide h1
    have hn8 : 1 ≤ n ∧ n ≤ 8 := by unfold brkSize at h1; omega
    by_cases h2 : ∀ x ∈ xs, 0 ≤ x ∧ x ≤ 7
    · have H2 := hide h2
      have hb8 : ∀ x ∈ xs, 0 ≤ x ∧ x < 8 := fun x hx => by have := h2 x hx; omega
      have HB8 := hide hb8
      have hlo := (orN_bits xs hb8).1
      have hpc := orN_pc xs hb8
      have HV := hide (show decide (isFull xs) = decide ((pc (orN xs) : Int) = (n : Int)) by
        rw [decide_eq_decide]
        have hl := HL.out
        constructor
        · intro hh; have := hpc.2.2 hh.2.2; omega
        · intro hh; exact ⟨by rw [hl]; exact H1.out, h2, hpc.2.1 (by omega)⟩)
      clear h1 h2 hb8 hpc
      have HOR := hide (show orN xs = orN xs from rfl)
      go_enter Try.func52, Try.ntmps52
      go_wp2_with (first | (go_at_call 102; refine (isBracketSize_any _ _).mono ?_; rw [decide_eq_true H1.out]; rintro e w' ⟨rfl, rfl⟩) | (go_at_call 103; refine (allWithin_any _ _ _ xs _ _ _ HI.out).mono ?_; rw [decide_eq_true H2.out]; rintro e w1 ⟨rfl, hE1⟩) | (go_at_call 105; refine (setOf_any _ _ _ xs _ (HI.out.ext hE1) HB8.out).mono ?_; rintro e w' ⟨rfl, rfl⟩) | (go_at_call 104; refine (OnesCount_small (orN xs) hlo _).mono ?_; rintro e w' ⟨rfl, rfl⟩))
      go_ret
      exact ⟨ret_bool (by rw [HV.out]; first | rfl | (rw [Bool.eq_iff_iff, beq_iff_eq, decide_eq_true_eq]) | simp), hE1⟩
    · have H2 := hide h2
      have HV := hide (show decide (isFull xs) = false from decide_eq_false fun hh => h2 hh.2.1)
      clear h1 h2
      go_enter Try.func52, Try.ntmps52
      go_wp2_with (first | (go_at_call 102; refine (isBracketSize_any _ _).mono ?_; rw [decide_eq_true H1.out]; rintro e w' ⟨rfl, rfl⟩) | (go_at_call 103; refine (allWithin_any _ _ _ xs _ _ _ HI.out).mono ?_; rw [decide_eq_false H2.out]; rintro e w1 ⟨rfl, hE1⟩))
      go_ret
      exact ⟨ret_bool HV.out.symm, hE1⟩
  · have H1 := hide h1
    have HV := hide (show decide (isFull xs) = false from decide_eq_false fun hh => h1 (by have := hh.1; rwa [HL.out] at this))
    clear h1
    go_enter Try.func52, Try.ntmps52
    go_wp2_with (go_at_call 102; refine (isBracketSize_any _ _).mono ?_; rw [decide_eq_false H1.out]; rintro e w' ⟨rfl, rfl⟩)
    go_ret
    exact ⟨ret_bool HV.out.symm, Ext.refl _⟩
-- slices.Equal
theorem Equal_any (A : Option Addr) (n c : Nat) (xs : List Int) (A2 : Option Addr) (n2 c2 : Nat) (ys : List Int) (w : World) (h : Ints w A n c xs) (h2 : Ints w A2 n2 c2 ys) :
    Calls Try.prog 53 #[.slice A n c, .slice A2 n2 c2] w fun e w' => e = .returned (.bool (decide (xs = ys))) ∧ Ext w w' := by
  have HL := hide h.len
  have HL2 := hide h2.len
  have hle := h.le
  have hmx := h.max
  by_cases hnn : n = n2
  · subst hnn
    go_enter Try.func53, Try.ntmps53
    go_wp2
    go_loopw [13] (fun i wr => ∃ k : Nat, k ≤ n ∧ i = .int .i64 k ∧ Hid (xs.take k = ys.take k) ∧ Qt w wr) (fun i _ => n - (intOf i).toNat)
    case atStart => exact ⟨0, Nat.zero_le _, rfl, hide (by simp), Qt.refl _⟩
    case round =>
      obtain ⟨k, hk, rfl, HT, hE⟩ := hrel
      by_cases hlt : k < n
      · obtain ⟨b, off, x, rfl, hb, hx, wx, hc⟩ := (h.ext hE.ext).get hlt
        obtain ⟨b', off', y, rfl, hb', hy, wy, hc'⟩ := (h2.ext hE.ext).get hlt
        have HX := hide hx; clear hx
        have HY := hide hy; clear hy
        have HE := hide hE; clear hE
        go_wp2
        go_quiet (fail)
        go_wp2
        · have e : x ≠ y := by simpa using ‹(x != y) = true›
          go_ret
          exact ⟨ret_bool (by symm; rw [decide_eq_false_iff_not]; rintro rfl; have := HX.out.symm.trans HY.out; simp at this; exact e this), (HE.out.drewN _).ext⟩
        · have e : x = y := by simpa using ‹(x != y) = false›
          subst e
          go_roundw
          case rel => exact ⟨k + 1, by omega, by go_num, hide (by rw [take_snoc_of HX.out, take_snoc_of HY.out, HT.out]), HE.out.drewN _⟩
          case measure => (simp [intOf] <;> omega)
      · have : k = n := by omega
        subst this
        have HE := hide hE; clear hE
        go_wp2
        go_ret
        exact ⟨ret_bool (by symm; rw [decide_eq_true_eq]; have := HT.out; rwa [take_len HL.out, take_len HL2.out] at this), HE.out.ext⟩
  · have hne : ((n : Int) != (n2 : Int)) = true := by rw [bne_iff_ne]; omega
    go_enter Try.func53, Try.ntmps53
    go_wp2
    go_ret
    exact ⟨ret_bool (by symm; rw [decide_eq_false_iff_not]; rintro rfl; exact hnn (HL.out.symm.trans HL2.out)), Ext.refl _⟩
-- impl.leastBracket
theorem leastB_any (k : Nat) : ∀ (A : Option Addr) (n c : Nat) (xs : List Int) (w : World), Ints w A n c xs → n = pw2 k → k ≤ 3 →
    Calls Try.prog 54 #[.slice A n c] w (RetR w (formB k xs)) := by
  induction k with
  | zero =>
    intro A n c xs w h hn hk
    have HI := hide h
    obtain rfl : n = 1 := hn
    clear h
    go_enter Try.func54, Try.ntmps54
    go_wp2
    go_ret
    exact RetR.mk rfl HI.out (Ext.refl _)
  | succ k ih =>
    intro A n c xs w h hn hk
    have IH := hide ih
    obtain ⟨m, hm⟩ : ∃ m, m = pw2 k := ⟨_, rfl⟩
    have hm4 : 1 ≤ m ∧ m ≤ 4 := by
      have : k = 0 ∨ k = 1 ∨ k = 2 := by omega
      rcases this with rfl | rfl | rfl <;> simp [pw2] at hm <;> omega
    have hn2 : n = 2 * m := by simp only [pw2] at hn; omega
    have hbe : ((n : Int) == 1) = false := by rw [beq_eq_false_iff_ne]; omega
    have hq : (n : Int) / 2 = (m : Int) := by omega
    have hmn : m ≤ n := by omega
    have hmni : (m : Int) ≤ (n : Int) := by omega
    have HM := hide hm
    have HN2 := hide hn2
    have HT := hide (h.take hmn)
    have HDr := hide (h.tail hmn)
    have hle := h.le
    have hmx := h.max
    have hln := h.len
    have HFX := hide (show formB (k + 1) xs = joinB (formB k (xs.take m)) (formB k (xs.drop m)) by rw [hm]; rfl)
    have HLX := hide (show (formB k (xs.take m)).length = m by rw [formB_len k _ (by simp; omega), hm])
    have HLY := hide (show (formB k (xs.drop m)).length = m by rw [formB_len k _ (by simp; omega), hm])
    have htl := run_tail_int A n c m hmn (m : Int) rfl
    have HK := hide hk
    have hnm : n - m = m := by omega
    rw [hnm] at HDr htl
    have hq2 : Int.tdiv (n : Int) 2 = (m : Int) := by rw [Int.tdiv_eq_ediv_of_nonneg (by omega)]; exact hq
    have hwm : IntKind.i64.wrap (m : Int) = (m : Int) := by rw [IntKind.wrap_i64]; omega
    have hm0 : (0 : Int) ≤ (m : Int) := by omega
    have IH2 := hide (show ∀ (A' : Option Addr) (n' c' : Nat) (zs : List Int) (w' : World), Ints w' A' n' c' zs → n' = m → Calls Try.prog 54 #[.slice A' n' c'] w' (RetR w' (formB k zs)) from fun A' n' c' zs w' h' hn' => ih A' n' c' zs w' h' (by omega) (by omega))
    clear h ih hn hn2 hm hk hln hnm
    go_enter Try.func54, Try.ntmps54
    go_wp2
    go_region_with (first
      | (go_at_call 54; refine Calls.mono (IH2.out _ _ _ (xs.take m) _ ?_ rfl) ?_; exact (HT.out.ext (Ext.refl _).drew); rintro e wa ⟨B1, d1, rfl, h1, hEa⟩; rw [HLX.out] at h1 ⊢)
      | (go_at_call 54; refine Calls.mono (IH2.out _ _ _ (xs.drop m) _ ?_ rfl) ?_; exact (HDr.out.ext ((Ext.refl _).drew.trans hEa)); rintro e wz ⟨B2, d2, rfl, h2z, hEz⟩; rw [HLY.out] at h2z ⊢; have h1z := h1.ext hEz)
      | (go_at_call 54; refine Calls.mono (IH2.out _ _ _ (xs.drop m) _ ?_ rfl) ?_; exact (HDr.out.ext (Ext.refl _).drew); rintro e wa ⟨B2, d2, rfl, h2, hEa⟩; rw [HLY.out] at h2 ⊢)
      | (go_at_call 54; refine Calls.mono (IH2.out _ _ _ (xs.take m) _ ?_ rfl) ?_; exact (HT.out.ext ((Ext.refl _).drew.trans hEa)); rintro e wz ⟨B1, d1, rfl, h1z, hEz⟩; rw [HLX.out] at h1z ⊢; have h2z := h2.ext hEz))
    all_goals (
      have HE2 := hide ((Ext.refl w).drew.trans (hEa.trans hEz))
      have HJ1 := hide h1z
      have HI2 := hide h2z
      generalize formB k (xs.take m) = fx at *
      generalize formB k (xs.drop m) = fy at *
      obtain ⟨b1, o1, x, rfl, hb1, hx, wx, hcx⟩ := HJ1.out.get (k := 0) (by omega)
      obtain ⟨b2, o2, y, rfl, hb2, hy, wy, hcy⟩ := HI2.out.get (k := 0) (by omega)
      have HGX := hide (getD_of hx)
      have HGY := hide (getD_of hy)
      have hm0n : 0 < m := by omega
      have hm0i : (0 : Int) < (m : Int) := by omega
      simp only [Nat.add_zero] at hcx hcy
      clear hx hy htl hEa hEz h1z h2z
      try clear h1
      try clear h2
      by_cases hlt : y < x
      · have HJ := hide (joinB_yes (x := fx) (y := fy) (by rw [HGX.out, HGY.out]; exact hlt))
        go_wp2
        go_quiet (fail)
        obtain ⟨w3, hw3⟩ : ∃ w3 : World, w3 = wz.drewN nq := ⟨_, rfl⟩
        have HE3 := hide (show Ext wz w3 by rw [hw3]; exact (Ext.refl _).drewN _)
        rw [← hw3]
        clear hw3
        have HGR := hide (grid2 (HI2.out.ext HE3.out) (HJ1.out.ext HE3.out))
        go_wp2_with (go_at_call 106; refine (Concat_eq _ _ _ [fy, fx] (fy ++ fx) _ (by simp) HGR.out (by simp [tot]; have := HLX.out; have := HLY.out; omega)).mono ?_; rintro e w4 ⟨B4, d4, rfl, ho4, hE4⟩)
        go_ret
        exact RetR.mk rfl (by rw [HFX.out, HJ.out]; rw [List.length_append] at ho4; exact ho4.ints) (HE2.out.trans (HE3.out.trans ((Ext.one _ _).trans hE4)))
      · have HJ := hide (joinB_no (x := fx) (y := fy) (by rw [HGX.out, HGY.out]; exact hlt))
        go_wp2
        go_quiet (fail)
        obtain ⟨w3, hw3⟩ : ∃ w3 : World, w3 = wz.drewN nq := ⟨_, rfl⟩
        have HE3 := hide (show Ext wz w3 by rw [hw3]; exact (Ext.refl _).drewN _)
        rw [← hw3]
        clear hw3
        have HGR := hide (grid2 (HJ1.out.ext HE3.out) (HI2.out.ext HE3.out))
        go_wp2_with (go_at_call 106; refine (Concat_eq _ _ _ [fx, fy] (fx ++ fy) _ (by simp) HGR.out (by simp [tot]; have := HLX.out; have := HLY.out; omega)).mono ?_; rintro e w4 ⟨B4, d4, rfl, ho4, hE4⟩)
        go_ret
        exact RetR.mk rfl (by rw [HFX.out, HJ.out]; rw [List.length_append] at ho4; exact ho4.ints) (HE2.out.trans (HE3.out.trans ((Ext.one _ _).trans hE4))))
-- spec.l22Entries
theorem l22Entries_any (A : Option Addr) (n c : Nat) (xs : List Int) (w : World) (h : Ints w A n c xs) :
    Calls Try.prog 49 #[.slice A n c] w fun e w' => e = .returned (.bool (decide (isFull xs))) ∧ w = w' := by
  have HI := hide h
  have HL := hide h.len
  have hle := h.le
  have hmx := h.max
  clear h
  by_cases h1 : brkSize (n : Int)
  · have H1 := hide h1
    have hn8 : 1 ≤ n ∧ n ≤ 8 := by unfold brkSize at h1; omega
    clear h1
    go_enter Try.func49, Try.ntmps49
    go_wp2_with (go_at_call 91; refine (l21Size_any _ _).mono ?_; rw [decide_eq_true H1.out]; rintro e w' ⟨rfl, rfl⟩)
    go_loop [3, 12] (fun m i => ∃ k : Nat, k ≤ n ∧ i = .int .i64 (k : Int) ∧ m = .int .i64 (setN (xs.take k) : Int) ∧ Hid ((xs.take k).Nodup ∧ ∀ x ∈ xs.take k, 0 ≤ x ∧ x ≤ 7)) (fun _ i => n - (intOf i).toNat)
    case atStart => exact ⟨0, Nat.zero_le _, rfl, rfl, hide (by simp)⟩
    case round =>
      obtain ⟨k, hk, rfl, rfl, HV⟩ := hrel
      have hPB : ∀ x ∈ xs.take k, 0 ≤ x ∧ x < 8 := fun x hx => by have := HV.out.2 x hx; omega
      have HPB := hide hPB; clear hPB
      have hsn := (setN_bits _ HPB.out HV.out.1).1
      by_cases hlt : k < n
      · obtain ⟨b, off, x, rfl, hb, hx, wx, hc⟩ := HI.out.get hlt
        have HX := hide hx; clear hx
        by_cases hin : 0 ≤ x ∧ x ≤ 7
        · have HIN := hide (decide_eq_true hin)
          obtain ⟨a, rfl⟩ : ∃ a : Nat, x = (a : Int) := ⟨x.toNat, by omega⟩
          have HSB := hide (seen_bit HPB.out HV.out.1 (b := a) (by omega))
          have HWS := hide (wrap_seen HPB.out HV.out.1 (a := a) (by omega))
          have hsh := shr_bound2 (m := (setN (xs.take k) : Int)) (by omega) a
          have HPX := hide (take_snoc_of HX.out)
          by_cases hm : (a : Int) ∈ xs.take k
          · have hbb : (bits BinOp.and IntKind.i64 ((setN (xs.take k) : Int) / 2 ^ a) 1 == 1) = true := by rw [HSB.out]; exact decide_eq_true hm
            have HM := hide hm
            clear hm
            go_wp2_with (go_at_call 67; refine (l01In_any _ _ _ _).mono ?_; rw [HIN.out]; rintro e w' ⟨rfl, rfl⟩)
            go_ret
            refine ⟨ret_bool ?_, rfl⟩
            symm; rw [decide_eq_false_iff_not]
            intro hd
            have h5 := nodup_take (k := k + 1) hd.2.2
            rw [HPX.out, nodup_push] at h5
            exact h5.2 HM.out
          · have hbb : (bits BinOp.and IntKind.i64 ((setN (xs.take k) : Int) / 2 ^ a) 1 == 1) = false := by rw [HSB.out]; exact decide_eq_false hm
            have HM := hide hm
            clear hm
            go_wp2_with (go_at_call 67; refine (l01In_any _ _ _ _).mono ?_; rw [HIN.out]; rintro e w' ⟨rfl, rfl⟩)
            go_round
            case rel =>
              refine ⟨k + 1, by omega, by go_num, by first | (rw [HPX.out, ← HWS.out]) | (rw [HPX.out, ← HWS.out]; go_num), hide ⟨by rw [HPX.out, nodup_push]; exact ⟨HV.out.1, HM.out⟩, ?_⟩⟩
              rw [HPX.out]
              intro z hz
              rcases List.mem_append.1 hz with hz | hz
              · exact HV.out.2 z hz
              · obtain rfl : z = (a : Int) := by simpa using hz
                omega
            case measure => (simp [intOf] <;> omega)
        · have HIN := hide (decide_eq_false hin)
          have HNB : Hid (¬ isFull xs) := hide (fun hd => hin (hd.2.1 x (List.mem_of_getElem? HX.out)))
          clear hin
          go_wp2_with (go_at_call 67; refine (l01In_any _ _ _ _).mono ?_; rw [HIN.out]; rintro e w' ⟨rfl, rfl⟩)
          go_ret
          exact ⟨ret_bool (by symm; rw [decide_eq_false_iff_not]; exact HNB.out), rfl⟩
      · have hke : k = n := by omega
        subst hke
        go_wp2
        go_ret
        refine ⟨ret_bool ?_, rfl⟩
        symm
        rw [decide_eq_true_eq]
        have hv := HV.out
        rw [take_len HL.out] at hv
        exact ⟨by rw [HL.out]; exact H1.out, hv.2, hv.1⟩
  · have H1 := hide h1
    have HV := hide (show decide (isFull xs) = false from decide_eq_false fun hh => h1 (by have := hh.1; rwa [HL.out] at this))
    clear h1
    go_enter Try.func49, Try.ntmps49
    go_wp2_with (go_at_call 91; refine (l21Size_any _ _).mono ?_; rw [decide_eq_false H1.out]; rintro e w' ⟨rfl, rfl⟩)
    go_ret
    exact ⟨ret_bool HV.out.symm, rfl⟩
theorem l22EntriesE_any (A : Option Addr) (n c : Nat) (xs : List Int) (w : World) (h : Ints w A n c xs) :
    Calls Try.prog 49 #[.slice A n c] w fun e w' => e = .returned (.bool (decide (isFull xs))) ∧ Ext w w' :=
  (l22Entries_any A n c xs w h).mono fun _ _ ⟨h1, h2⟩ => ⟨h1, by subst h2; exact Ext.refl _⟩
-- spec.l22Form
theorem formS_any (k : Nat) : ∀ (A : Option Addr) (n c : Nat) (xs : List Int) (w : World), Ints w A n c xs → n = pw2 k → k ≤ 3 →
    Calls Try.prog 51 #[.slice A n c] w (RetR w (formB k xs)) := by
  induction k with
  | zero =>
    intro A n c xs w h hn hk
    have HI := hide h
    obtain rfl : n = 1 := hn
    clear h
    go_enter Try.func51, Try.ntmps51
    go_wp2
    go_ret
    exact RetR.mk rfl HI.out (Ext.refl _)
  | succ k ih =>
    intro A n c xs w h hn hk
    have IH := hide ih
    obtain ⟨m, hm⟩ : ∃ m, m = pw2 k := ⟨_, rfl⟩
    have hm4 : 1 ≤ m ∧ m ≤ 4 := by
      have : k = 0 ∨ k = 1 ∨ k = 2 := by omega
      rcases this with rfl | rfl | rfl <;> simp [pw2] at hm <;> omega
    have hn2 : n = 2 * m := by simp only [pw2] at hn; omega
    have hbe : ((n : Int) == 1) = false := by rw [beq_eq_false_iff_ne]; omega
    have hq : (n : Int) / 2 = (m : Int) := by omega
    have hmn : m ≤ n := by omega
    have hmni : (m : Int) ≤ (n : Int) := by omega
    have HM := hide hm
    have HT := hide (h.take hmn)
    have HDr := hide (h.tail hmn)
    have hle := h.le
    have hmx := h.max
    have hln := h.len
    have HFX := hide (show formB (k + 1) xs = joinB (formB k (xs.take m)) (formB k (xs.drop m)) by rw [hm]; rfl)
    have HLX := hide (show (formB k (xs.take m)).length = m by rw [formB_len k _ (by simp; omega), hm])
    have HLY := hide (show (formB k (xs.drop m)).length = m by rw [formB_len k _ (by simp; omega), hm])
    have htl := run_tail_int A n c m hmn (m : Int) rfl
    have HK := hide (show k ≤ 3 by omega)
    have hnm : n - m = m := by omega
    rw [hnm] at HDr htl
    clear h ih hn hn2 hm hk hln hnm
    go_enter Try.func51, Try.ntmps51
    go_wp2_with fail
    refine (IH.out _ _ _ _ _ HT.out HM.out HK.out).mono ?_
    rintro e w1 ⟨B1, d1, rfl, h1, hE1⟩
    rw [HLX.out] at h1 ⊢
    have HI1 := hide h1
    have HE1 := hide hE1
    clear h1 hE1
    go_wp2_with fail
    refine (IH.out _ _ _ _ _ (HDr.out.ext HE1.out) HM.out HK.out).mono ?_
    rintro e w2 ⟨B2, d2, rfl, h2, hE2⟩
    rw [HLY.out] at h2 ⊢
    have HI2 := hide h2
    have HJ1 := hide (HI1.out.ext hE2)
    have HE2 := hide (HE1.out.trans hE2)
    generalize formB k (xs.take m) = fx at *
    generalize formB k (xs.drop m) = fy at *
    obtain ⟨b1, o1, x, rfl, hb1, hx, wx, hcx⟩ := HJ1.out.get (k := 0) (by omega)
    obtain ⟨b2, o2, y, rfl, hb2, hy, wy, hcy⟩ := HI2.out.get (k := 0) (by omega)
    have HGX := hide (getD_of hx)
    have HGY := hide (getD_of hy)
    have hm0 : 0 < m := by omega
    have hm0i : (0 : Int) < (m : Int) := by omega
    simp only [Nat.add_zero] at hcx hcy
    clear h2 hE2 hx hy htl
    by_cases hlt : y < x
    · have HJ := hide (joinB_yes (x := fx) (y := fy) (by rw [HGX.out, HGY.out]; exact hlt))
      go_wp2
      go_quiet (fail)
      obtain ⟨w3, hw3⟩ : ∃ w3 : World, w3 = w2.drewN nq := ⟨_, rfl⟩
      have HE3 := hide (show Ext w2 w3 by rw [hw3]; exact (Ext.refl _).drewN _)
      rw [← hw3]
      clear hw3
      have HEL := hide (Ext.one w3 (.cells #[] 3))
      have HOL := hide (ints_lit0 w3 (Nat.le_refl _))
      go_wp2_with (first
        | (at_builtin; refine push_ints (base := w3.heap.size) rfl (.tmp 30) (.tmp 31) rfl rfl HB5.out (some ⟨b1, o1, none⟩) m d1 fx rfl (HJ1.out.ext (HE3.out.trans HE5.out)) (by omega) HE5.out.size ?_; intro B6 d6 w6 hb6 hg6 hat6; have HE6 := hide (HE5.out.grown hg6 (fun k hk => (HB5.out.block k hk).1)))
        | (at_builtin; refine push_ints rfl (.tmp 28) (.tmp 29) rfl rfl HOL.out (some ⟨b2, o2, none⟩) m d2 fy rfl (HI2.out.ext (HE3.out.trans HEL.out)) (by omega) (by simp) ?_; intro B5 d5 w5 hb5 hg5 hat5; rw [Nat.zero_add, List.nil_append] at hb5; have HB5 := hide hb5; have HE5 := hide (HEL.out.grown hg5 (fun k hk => (HOL.out.block k hk).1)); clear hb5 hg5 hat5))
      go_ret
      exact RetR.mk rfl (by rw [HFX.out, HJ.out]; exact hb6.ints) (HE2.out.trans (HE3.out.trans HE6.out))
    · have HJ := hide (joinB_no (x := fx) (y := fy) (by rw [HGX.out, HGY.out]; exact hlt))
      go_wp2
      go_quiet (fail)
      obtain ⟨w3, hw3⟩ : ∃ w3 : World, w3 = w2.drewN nq := ⟨_, rfl⟩
      have HE3 := hide (show Ext w2 w3 by rw [hw3]; exact (Ext.refl _).drewN _)
      rw [← hw3]
      clear hw3
      have HEL := hide (Ext.one w3 (.cells #[] 3))
      have HOL := hide (ints_lit0 w3 (Nat.le_refl _))
      go_wp2_with (first
        | (at_builtin; refine push_ints (base := w3.heap.size) rfl (.tmp 35) (.tmp 36) rfl rfl HB5.out (some ⟨b2, o2, none⟩) m d2 fy rfl (HI2.out.ext (HE3.out.trans HE5.out)) (by omega) HE5.out.size ?_; intro B6 d6 w6 hb6 hg6 hat6; have HE6 := hide (HE5.out.grown hg6 (fun k hk => (HB5.out.block k hk).1)))
        | (at_builtin; refine push_ints rfl (.tmp 33) (.tmp 34) rfl rfl HOL.out (some ⟨b1, o1, none⟩) m d1 fx rfl (HJ1.out.ext (HE3.out.trans HEL.out)) (by omega) (by simp) ?_; intro B5 d5 w5 hb5 hg5 hat5; rw [Nat.zero_add, List.nil_append] at hb5; have HB5 := hide hb5; have HE5 := hide (HEL.out.grown hg5 (fun k hk => (HOL.out.block k hk).1)); clear hb5 hg5 hat5))
      go_ret
      exact RetR.mk rfl (by rw [HFX.out, HJ.out]; exact hb6.ints) (HE2.out.trans (HE3.out.trans HE6.out))
-- l04Same with Ext
theorem l04SameE_any (A : Option Addr) (n c : Nat) (xs : List Int) (A2 : Option Addr) (n2 c2 : Nat) (ys : List Int) (w : World) (h : Ints w A n c xs) (h2 : Ints w A2 n2 c2 ys) :
    Calls Try.prog 50 #[.slice A n c, .slice A2 n2 c2] w fun e w' => e = .returned (.bool (decide (xs = ys))) ∧ Ext w w' :=
  (l04Same_any A n c xs A2 n2 c2 ys w h h2).mono fun _ _ ⟨h1, h2⟩ => ⟨h1, by subst h2; exact Ext.refl _⟩
-- SameBracket words
theorem full_size {xs : List Int} {n : Nat} (h : isFull xs) (hl : xs.length = n) : n = pw2 (lg (n : Int)) ∧ lg (n : Int) ≤ 3 := by
  have h1 := h.1
  rw [hl] at h1
  have h2 := brk_pw2 h1
  omega
-- SameBracket both impl.SameBracket
theorem iSame_any (A : Option Addr) (n c : Nat) (xs : List Int) (A2 : Option Addr) (n2 c2 : Nat) (ys : List Int) (w : World) (h : Ints w A n c xs) (h2 : Ints w A2 n2 c2 ys) :
    Calls Try.prog 16 #[.slice A n c, .slice A2 n2 c2] w fun e w' => e = .returned (.bool (decide (sameBracket xs ys))) ∧ Ext w w' := by
  have HI := hide h
  have HI2 := hide h2
  have HL := hide h.len
  have HL2 := hide h2.len
  have COK := hide (show ∀ (A' : Option Addr) (n' c' : Nat) (zs : List Int) (w' : World), Ints w' A' n' c' zs → Calls Try.prog 52 #[.slice A' n' c'] w' fun e w'' => e = .returned (.bool (decide (isFull zs))) ∧ Ext w' w'' from iIsFull_any)
  clear h h2
  by_cases h1 : isFull xs
  · have H1 := hide h1
    by_cases h2 : isFull ys
    · have H2 := hide h2
      by_cases h3 : n = n2
      · subst h3
        have hp := full_size h1 HL.out
        have HP := hide hp
        have HSB := hide (show decide (sameBracket xs ys) = decide (formB (lg (n : Int)) xs = formB (lg (n : Int)) ys) by
          rw [decide_eq_decide]
          have e1 := HL.out
          have e2 := HL2.out
          constructor
          · intro hh; have := hh.2.2.2; rwa [e1, e2] at this
          · intro hh; exact ⟨h1, h2, by omega, by rw [e1, e2]; exact hh⟩)
        have hbn : ((n : Int) != (n : Int)) = false := by simp
        clear h1 h2 hp
        have CF := hide (show ∀ (A' : Option Addr) (n' c' : Nat) (zs : List Int) (w' : World), Ints w' A' n' c' zs → n' = n → Calls Try.prog 54 #[.slice A' n' c'] w' (RetR w' (formB (lg (n : Int)) zs)) from fun A' n' c' zs w' h' hn' => leastB_any _ A' n' c' zs w' h' (by have := HP.out.1; omega) HP.out.2)
        clear HP
        generalize lg (n : Int) = lk at *
        go_enter Try.func16, Try.ntmps16
        go_wp2_with (first
          | (go_at_call 52; refine Calls.mono (COK.out _ _ _ ys _ ?_) ?_; exact HI2.out.ext hE1; rw [decide_eq_true H2.out]; rintro e w2 ⟨rfl, hE2⟩)
          | (go_at_call 52; refine Calls.mono (COK.out _ _ _ xs _ ?_) ?_; exact HI.out; rw [decide_eq_true H1.out]; rintro e w1 ⟨rfl, hE1⟩)
          | (go_at_call 54; refine Calls.mono (CF.out _ _ _ ys _ ?_ rfl) ?_; exact HI2.out.ext (hE1.trans (hE2.trans hE3)); rintro e w4 ⟨B4, d4, rfl, h4, hE4⟩)
          | (go_at_call 54; refine Calls.mono (CF.out _ _ _ xs _ ?_ rfl) ?_; exact HI.out.ext (hE1.trans hE2); rintro e w3 ⟨B3, d3, rfl, h3, hE3⟩)
          | (go_at_call 53; refine (Equal_any _ _ _ _ _ _ _ _ _ (h3.ext hE4) h4).mono ?_; rintro e w5 ⟨rfl, hE5⟩))
        go_ret
        exact ⟨ret_bool HSB.out.symm, hE1.trans (hE2.trans (hE3.trans (hE4.trans hE5)))⟩
      · have HV := hide (show decide (sameBracket xs ys) = false from decide_eq_false fun hh => h3 (by have := hh.2.2.1; have := HL.out; have := HL2.out; omega))
        have hne : ((n : Int) != (n2 : Int)) = true := by rw [bne_iff_ne]; omega
        have hne2 : ((n : Int) == (n2 : Int)) = false := by rw [beq_eq_false_iff_ne]; omega
        clear h1 h2 h3
        go_enter Try.func16, Try.ntmps16
        go_wp2_with (first
          | (go_at_call 52; refine Calls.mono (COK.out _ _ _ ys _ ?_) ?_; exact HI2.out.ext hE1; rw [decide_eq_true H2.out]; rintro e w2 ⟨rfl, hE2⟩)
          | (go_at_call 52; refine Calls.mono (COK.out _ _ _ xs _ ?_) ?_; exact HI.out; rw [decide_eq_true H1.out]; rintro e w1 ⟨rfl, hE1⟩))
        go_ret
        exact ⟨ret_bool HV.out.symm, hE1.trans hE2⟩
    · have H2 := hide h2
      have HV := hide (show decide (sameBracket xs ys) = false from decide_eq_false fun hh => h2 hh.2.1)
      clear h1 h2
      go_enter Try.func16, Try.ntmps16
      go_wp2_with (first
        | (go_at_call 52; refine Calls.mono (COK.out _ _ _ ys _ ?_) ?_; exact HI2.out.ext hE1; rw [decide_eq_false H2.out]; rintro e w2 ⟨rfl, hE2⟩)
        | (go_at_call 52; refine Calls.mono (COK.out _ _ _ xs _ ?_) ?_; exact HI.out; rw [decide_eq_true H1.out]; rintro e w1 ⟨rfl, hE1⟩))
      go_ret
      exact ⟨ret_bool HV.out.symm, hE1.trans hE2⟩
  · have H1 := hide h1
    have HV := hide (show decide (sameBracket xs ys) = false from decide_eq_false fun hh => h1 hh.1)
    clear h1
    go_enter Try.func16, Try.ntmps16
    go_wp2_with ((go_at_call 52; refine Calls.mono (COK.out _ _ _ xs _ ?_) ?_; exact HI.out; rw [decide_eq_false H1.out]; rintro e w1 ⟨rfl, hE1⟩))
    go_ret
    exact ⟨ret_bool HV.out.symm, hE1⟩
-- SameBracket both spec.SameBracket
theorem sSame_any (A : Option Addr) (n c : Nat) (xs : List Int) (A2 : Option Addr) (n2 c2 : Nat) (ys : List Int) (w : World) (h : Ints w A n c xs) (h2 : Ints w A2 n2 c2 ys) :
    Calls Try.prog 14 #[.slice A n c, .slice A2 n2 c2] w fun e w' => e = .returned (.bool (decide (sameBracket xs ys))) ∧ Ext w w' := by
  have HI := hide h
  have HI2 := hide h2
  have HL := hide h.len
  have HL2 := hide h2.len
  have COK := hide (show ∀ (A' : Option Addr) (n' c' : Nat) (zs : List Int) (w' : World), Ints w' A' n' c' zs → Calls Try.prog 49 #[.slice A' n' c'] w' fun e w'' => e = .returned (.bool (decide (isFull zs))) ∧ Ext w' w'' from l22EntriesE_any)
  clear h h2
  by_cases h1 : isFull xs
  · have H1 := hide h1
    by_cases h2 : isFull ys
    · have H2 := hide h2
      by_cases h3 : n = n2
      · subst h3
        have hp := full_size h1 HL.out
        have HP := hide hp
        have HSB := hide (show decide (sameBracket xs ys) = decide (formB (lg (n : Int)) xs = formB (lg (n : Int)) ys) by
          rw [decide_eq_decide]
          have e1 := HL.out
          have e2 := HL2.out
          constructor
          · intro hh; have := hh.2.2.2; rwa [e1, e2] at this
          · intro hh; exact ⟨h1, h2, by omega, by rw [e1, e2]; exact hh⟩)
        have hbn : ((n : Int) != (n : Int)) = false := by simp
        clear h1 h2 hp
        have CF := hide (show ∀ (A' : Option Addr) (n' c' : Nat) (zs : List Int) (w' : World), Ints w' A' n' c' zs → n' = n → Calls Try.prog 51 #[.slice A' n' c'] w' (RetR w' (formB (lg (n : Int)) zs)) from fun A' n' c' zs w' h' hn' => formS_any _ A' n' c' zs w' h' (by have := HP.out.1; omega) HP.out.2)
        clear HP
        generalize lg (n : Int) = lk at *
        go_enter Try.func14, Try.ntmps14
        go_wp2_with (first
          | (go_at_call 49; refine Calls.mono (COK.out _ _ _ ys _ ?_) ?_; exact HI2.out.ext hE1; rw [decide_eq_true H2.out]; rintro e w2 ⟨rfl, hE2⟩)
          | (go_at_call 49; refine Calls.mono (COK.out _ _ _ xs _ ?_) ?_; exact HI.out; rw [decide_eq_true H1.out]; rintro e w1 ⟨rfl, hE1⟩)
          | (go_at_call 51; refine Calls.mono (CF.out _ _ _ ys _ ?_ rfl) ?_; exact HI2.out.ext (hE1.trans (hE2.trans hE3)); rintro e w4 ⟨B4, d4, rfl, h4, hE4⟩)
          | (go_at_call 51; refine Calls.mono (CF.out _ _ _ xs _ ?_ rfl) ?_; exact HI.out.ext (hE1.trans hE2); rintro e w3 ⟨B3, d3, rfl, h3, hE3⟩)
          | (go_at_call 50; refine (l04SameE_any _ _ _ _ _ _ _ _ _ (h3.ext hE4) h4).mono ?_; rintro e w5 ⟨rfl, hE5⟩))
        go_ret
        exact ⟨ret_bool HSB.out.symm, hE1.trans (hE2.trans (hE3.trans (hE4.trans hE5)))⟩
      · have HV := hide (show decide (sameBracket xs ys) = false from decide_eq_false fun hh => h3 (by have := hh.2.2.1; have := HL.out; have := HL2.out; omega))
        have hne : ((n : Int) != (n2 : Int)) = true := by rw [bne_iff_ne]; omega
        have hne2 : ((n : Int) == (n2 : Int)) = false := by rw [beq_eq_false_iff_ne]; omega
        clear h1 h2 h3
        go_enter Try.func14, Try.ntmps14
        go_wp2_with (first
          | (go_at_call 49; refine Calls.mono (COK.out _ _ _ ys _ ?_) ?_; exact HI2.out.ext hE1; rw [decide_eq_true H2.out]; rintro e w2 ⟨rfl, hE2⟩)
          | (go_at_call 49; refine Calls.mono (COK.out _ _ _ xs _ ?_) ?_; exact HI.out; rw [decide_eq_true H1.out]; rintro e w1 ⟨rfl, hE1⟩))
        go_ret
        exact ⟨ret_bool HV.out.symm, hE1.trans hE2⟩
    · have H2 := hide h2
      have HV := hide (show decide (sameBracket xs ys) = false from decide_eq_false fun hh => h2 hh.2.1)
      clear h1 h2
      go_enter Try.func14, Try.ntmps14
      go_wp2_with (first
        | (go_at_call 49; refine Calls.mono (COK.out _ _ _ ys _ ?_) ?_; exact HI2.out.ext hE1; rw [decide_eq_false H2.out]; rintro e w2 ⟨rfl, hE2⟩)
        | (go_at_call 49; refine Calls.mono (COK.out _ _ _ xs _ ?_) ?_; exact HI.out; rw [decide_eq_true H1.out]; rintro e w1 ⟨rfl, hE1⟩))
      go_ret
      exact ⟨ret_bool HV.out.symm, hE1.trans hE2⟩
  · have H1 := hide h1
    have HV := hide (show decide (sameBracket xs ys) = false from decide_eq_false fun hh => h1 hh.1)
    clear h1
    go_enter Try.func14, Try.ntmps14
    go_wp2_with ((go_at_call 49; refine Calls.mono (COK.out _ _ _ xs _ ?_) ?_; exact HI.out; rw [decide_eq_false H1.out]; rintro e w1 ⟨rfl, hE1⟩))
    go_ret
    exact ⟨ret_bool HV.out.symm, hE1⟩

end Go.Proofs.Ytafhcnnbiheofaa
