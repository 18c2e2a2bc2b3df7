/-
  Contracts of the functions on ladders.
-/
import Derived.Test.YtlmepgbpddlhbaaBase
import Derived.Test.YtlmepgbpddlhbaaMathA
import Derived.Test.YtlmepgbpddlhbaaLib
import Derived.Test.YtlmepgbpddlhbaaAid
namespace Go.Proofs.Ytlmepgbpddlhbaa
open Go.RowKit
set_option linter.unusedVariables false

-- ladderOk
def ladderOk (xs : List Int) : Prop := (1 ≤ (xs.length : Int) ∧ (xs.length : Int) ≤ 8) ∧ isOrder xs
instance (xs : List Int) : Decidable (ladderOk xs) := by unfold ladderOk; infer_instance
-- impl.LadderOk
theorem iLadderOk_any (A : Option Addr) (n c : Nat) (xs : List Int) (w : World) (h : Ints w A n c xs) :
    Calls Try.prog 21 #[.slice A n c] w fun e w' => e = .returned (.bool (decide (ladderOk xs))) ∧ w = w' := by
  have hl := h.len
  subst hl
  have HI := hide h; clear h
  by_cases hin : 1 ≤ (xs.length : Int) ∧ (xs.length : Int) ≤ 8
  · go_enter Try.func21, Try.ntmps21
    go_wp2_with (first | (go_at_call 31; refine (within_any _ _ _ _).mono ?_; rintro e w' ⟨rfl, rfl⟩) | (go_at_call 35; refine (isOrder_any _ _ _ xs _ HI.out).mono ?_; rintro e w' ⟨rfl, rfl⟩))
    go_ret
    exact ⟨ret_bool (by unfold ladderOk; simp only [hin, true_and, and_self]), rfl⟩
  · go_enter Try.func21, Try.ntmps21
    go_wp2_with (first | (go_at_call 31; refine (within_any _ _ _ _).mono ?_; rintro e w' ⟨rfl, rfl⟩))
    go_ret
    exact ⟨ret_bool (by symm; rw [decide_eq_false_iff_not]; exact fun h => hin h.1), rfl⟩
-- spec.l02Perm
theorem info_bool : (Try.prog.info? 4).map (fun i => (i.zero, i.size, i.bytes)) = some (some (.bool false), 1, 1) := by kernel_rfl
def seen (n : Nat) (xs : List Int) : List Value := (List.range n).map fun (j : Nat) => Value.bool (decide ((j : Int) ∈ xs))
theorem seen_nil (n : Nat) : List.replicate n (Value.bool false) = seen n [] := by
  simp [seen, List.map_const']
theorem seen_get {n : Nat} {xs : List Int} {j : Nat} (h : j < n) : (seen n xs)[j]? = some (.bool (decide ((j : Int) ∈ xs))) := by
  simp [seen, h]
theorem seen_set {n : Nat} {xs : List Int} {x : Nat} (h : x < n) : (seen n xs).set x (.bool true) = seen n (xs ++ [(x : Int)]) := by
  apply List.ext_getElem?
  intro j
  rw [List.getElem?_set]
  by_cases e : x = j
  · subst e
    rw [if_pos rfl, seen_get h]
    simp [seen, h]
  · rw [if_neg e]
    by_cases hj : j < n
    · rw [seen_get hj, seen_get hj]
      have : ¬ (j : Int) = (x : Int) := by omega
      simp [this]
    · rw [List.getElem?_eq_none (by simp [seen]; omega), List.getElem?_eq_none (by simp [seen]; omega)]
theorem l02Perm_any (m : Int) (A : Option Addr) (n c : Nat) (xs : List Int) (w : World) (h : Ints w A n c xs) (hsz : n ≤ 4194304) :
    Calls Try.prog 34 #[.int .i64 m, .slice A n c] w fun e w' => e = .returned (.bool (decide ((xs.length : Int) = m ∧ isOrder xs))) ∧ Ext w w' := by
  have HL := hide h.len
  have hle := h.le
  by_cases hm : (n : Int) = m
  · subst hm
    have hmk := run_make_gen (P := Try.prog) Try.underlying42 info_bool rfl n (by omega) (by omega)
    have h0 := Ow.fill w (base := w.heap.size) (E := 4) (.bool false) n (by omega) (Nat.le_refl _)
    rw [seen_nil] at h0
    go_enter Try.func34, Try.ntmps34
    go_wp2
    go_loopw [16] (fun i wr => ∃ k : Nat, k ≤ n ∧ i = .int .i64 k ∧ Hid ((∀ x ∈ xs.take k, 0 ≤ x ∧ x < n) ∧ (xs.take k).Nodup) ∧ Ow wr w.heap.size 4 (some ⟨w.heap.size, 0, none⟩) n n (seen n (xs.take k)) ∧ Ext w wr) (fun i _ => n - (intOf i).toNat)
    case atStart => exact ⟨0, Nat.zero_le _, rfl, hide (by simp), by simpa using h0, Ext.one _ _⟩
    case round =>
      obtain ⟨k, hk, rfl, HR, ho, hE⟩ := hrel
      clear h0
      by_cases hlt : k < n
      · obtain ⟨b, off, x, rfl, hb, hx, wx, hc⟩ := (h.ext hE).get hlt
        have HX := hide hx; clear hx
        have HE := hide hE; clear hE
        by_cases hin : 0 ≤ x ∧ x ≤ (n : Int) - 1
        · obtain ⟨x, rfl⟩ := Int.eq_ofNat_of_zero_le hin.1
          have hxn : x < n := by omega
          obtain ⟨b', off', y, e, hb', hlt', hy, hc', hf'⟩ := ho.get hxn
          cases e
          rw [seen_get hxn] at hy
          cases hy
          have ho1 := ho.store rfl hxn (.bool true)
          rw [seen_set hxn, ← take_snoc_of HX.out] at ho1
          simp only [Nat.zero_add] at hc' hf' ho1
          have HO := hide ho1; clear ho ho1
          by_cases hm : (x : Int) ∈ xs.take k
          · go_wp2_with (first | (go_at_call 29; refine (l01In_any _ _ _ _).mono ?_; rintro e w' ⟨rfl, rfl⟩))
            go_ret
            exact ⟨ret_bool (by symm; rw [decide_eq_false_iff_not]; rintro ⟨_, _, hnd⟩; exact ((nodup_snoc HX.out).1 (nodup_take hnd)).2 hm), HE.out⟩
          · go_wp2_with (first | (go_at_call 29; refine (l01In_any _ _ _ _).mono ?_; rintro e w' ⟨rfl, rfl⟩))
            go_roundw
            case rel =>
              refine ⟨k + 1, by omega, by go_num, hide ⟨?_, (nodup_snoc HX.out).2 ⟨HR.out.2, hm⟩⟩, HO.out, HE.out.setCell (Nat.le_refl _) _⟩
              rw [take_snoc_of HX.out]
              intro y hy
              rcases List.mem_append.1 hy with hy | hy
              · exact HR.out.1 y hy
              · obtain rfl : y = x := by simpa using hy
                omega
            case measure => simp [intOf]; omega
        · go_wp2_with (first | (go_at_call 29; refine (l01In_any _ _ _ _).mono ?_; rintro e w' ⟨rfl, rfl⟩))
          go_ret
          exact ⟨ret_bool (by symm; rw [decide_eq_false_iff_not]; rintro ⟨_, hb', _⟩; have := hb' x (List.mem_of_getElem? HX.out); rw [HL.out] at this; omega), HE.out⟩
      · have : k = n := by omega
        subst this
        have HE := hide hE; clear hE
        go_wp2
        go_ret
        refine ⟨ret_bool (by symm; rw [decide_eq_true_eq]; have := HR.out; rw [take_len HL.out] at this; exact ⟨by rw [HL.out], by rw [HL.out]; exact this.1, this.2⟩), HE.out⟩
  · have hne : ((n : Int) != m) = true := by rw [bne_iff_ne]; exact hm
    go_enter Try.func34, Try.ntmps34
    go_wp2
    go_ret
    exact ⟨ret_bool (by symm; rw [decide_eq_false_iff_not]; rintro ⟨h1, _⟩; rw [HL.out] at h1; exact hm h1), Ext.refl _⟩
-- spec.LadderOk
theorem sLadderOk_any (A : Option Addr) (n c : Nat) (xs : List Int) (w : World) (h : Ints w A n c xs) :
    Calls Try.prog 20 #[.slice A n c] w fun e w' => e = .returned (.bool (decide (ladderOk xs))) ∧ Ext w w' := by
  have hl := h.len
  subst hl
  have HI := hide h; clear h
  by_cases hin : 1 ≤ (xs.length : Int) ∧ (xs.length : Int) ≤ 8
  · go_enter Try.func20, Try.ntmps20
    go_wp2_with (first | (go_at_call 29; refine (l01In_any _ _ _ _).mono ?_; rintro e w' ⟨rfl, rfl⟩) | (go_at_call 34; refine (l02Perm_any _ _ _ _ xs _ HI.out (by omega)).mono ?_; rintro e w1 ⟨rfl, hE1⟩))
    go_ret
    exact ⟨ret_bool (by unfold ladderOk; simp [hin]), hE1⟩
  · go_enter Try.func20, Try.ntmps20
    go_wp2_with (first | (go_at_call 29; refine (l01In_any _ _ _ _).mono ?_; rintro e w' ⟨rfl, rfl⟩))
    go_ret
    exact ⟨ret_bool (by symm; rw [decide_eq_false_iff_not]; exact fun h => hin h.1), Ext.refl _⟩
-- spec.l25Place
theorem l25Place_any (A : Option Addr) (n c : Nat) (xs : List Int) (v : Int) (w : World) (h : Ints w A n c xs) :
    Calls Try.prog 36 #[.slice A n c, .int .i64 v] w fun e w' => e = .returned (.int .i64 (idx xs v)) ∧ w = w' := by
  have hn := h.max
  have hl := h.le
  have HL := hide h.len
  go_enter Try.func36, Try.ntmps36
  go_wp2
  go_loop [9] (fun i => ∃ k : Nat, k ≤ n ∧ i = .int .i64 k ∧ ¬ v ∈ xs.take k) (fun i => n - (intOf i).toNat)
  case atStart => exact ⟨0, Nat.zero_le _, rfl, by simp⟩
  case round =>
    obtain ⟨k, hk, rfl, hv⟩ := hrel
    have HV := hide hv; clear hv
    by_cases hlt : k < n
    · obtain ⟨b, off, x, rfl, hb, hx, wx, hc⟩ := h.get hlt
      have HX := hide hx; clear hx
      go_wp2
      · have e : x = v := by simpa using ‹(x == v) = true›
        subst e
        go_ret
        exact ⟨ret_int (idx_hit HV.out HX.out).symm, rfl⟩
      · have e : x ≠ v := by simpa using ‹(x == v) = false›
        go_round
        case rel => exact ⟨k + 1, by omega, by go_num, mem_take_succ HX.out HV.out (fun h => e h.symm)⟩
        case measure => simp [intOf]; omega
    · have : k = n := by omega
      subst this
      go_wp2
      go_ret
      exact ⟨ret_int (idx_miss (by have := HV.out; rwa [take_len HL.out] at this)).symm, rfl⟩
-- impl.PlaceOf
def placeOf (xs : List Int) (a : Int) : Int := if ladderOk xs then idx xs a + 1 else 0
theorem idx_small {xs : List Int} {a : Int} (h : ladderOk xs) : -1 ≤ idx xs a ∧ idx xs a ≤ 8 := by
  have := idx_bound xs a
  have := h.1
  omega
theorem iPlaceOf_any (A : Option Addr) (n c : Nat) (xs : List Int) (a : Int) (w : World) (h : Ints w A n c xs) :
    Calls Try.prog 23 #[.slice A n c, .int .i64 a] w fun e w' => e = .returned (.int .i64 (placeOf xs a)) ∧ w = w' := by
  have HI := hide h; clear h
  by_cases hok : ladderOk xs
  · have hb := idx_small (a := a) hok
    go_enter Try.func23, Try.ntmps23
    go_wp2_with (first | (go_at_call 21; refine (iLadderOk_any _ _ _ xs _ HI.out).mono ?_; rintro e w' ⟨rfl, rfl⟩) | (go_at_call 37; refine (Index_any _ _ _ xs _ _ HI.out).mono ?_; rintro e w' ⟨rfl, rfl⟩))
    go_ret
    exact ⟨ret_int (by simp [placeOf, hok]), rfl⟩
  · go_enter Try.func23, Try.ntmps23
    go_wp2_with (first | (go_at_call 21; refine (iLadderOk_any _ _ _ xs _ HI.out).mono ?_; rintro e w' ⟨rfl, rfl⟩))
    go_ret
    exact ⟨ret_int (by simp [placeOf, hok]), rfl⟩
-- spec.PlaceOf
theorem sPlaceOf_any (A : Option Addr) (n c : Nat) (xs : List Int) (a : Int) (w : World) (h : Ints w A n c xs) :
    Calls Try.prog 22 #[.slice A n c, .int .i64 a] w fun e w' => e = .returned (.int .i64 (placeOf xs a)) ∧ Ext w w' := by
  have HI := hide h; clear h
  by_cases hok : ladderOk xs
  · have hb := idx_small (a := a) hok
    go_enter Try.func22, Try.ntmps22
    go_wp2_with (first | (go_at_call 20; refine (sLadderOk_any _ _ _ xs _ HI.out).mono ?_; rintro e w1 ⟨rfl, hE1⟩) | (go_at_call 36; refine (l25Place_any _ _ _ xs _ _ (HI.out.ext hE1)).mono ?_; rintro e w' ⟨rfl, rfl⟩))
    go_ret
    exact ⟨ret_int (by simp [placeOf, hok]), hE1⟩
  · go_enter Try.func22, Try.ntmps22
    go_wp2_with (first | (go_at_call 20; refine (sLadderOk_any _ _ _ xs _ HI.out).mono ?_; rintro e w1 ⟨rfl, hE1⟩))
    go_ret
    exact ⟨ret_int (by simp [placeOf, hok]), hE1⟩
-- law LadderOk
theorem law_LadderOk (A : Option Addr) (n c : Nat) (xs : List Int) (w : World) (h : Ints w A n c xs) :
    Calls Try.prog 6 #[.slice A n c] w fun e w' => e = .returned (.bool true) ∧ Ext w w' := by
  have hl := h.len
  subst hl
  have HI := hide h; clear h
  by_cases hsz : xs.length ≤ 1048576
  · go_enter Try.func6, Try.ntmps6
    go_wp2_with fail
    refine (toIntS_any _ _ _ xs _ HI.out (by omega)).mono ?_; rintro e w1 ⟨A1, c1, rfl, ho1, hE1⟩
    have HO1 := hide ho1; have HE1 := hide hE1; clear ho1 hE1
    go_wp2_with fail
    refine (sLadderOk_any _ _ _ xs _ HO1.out.ints).mono ?_; rintro e w2 ⟨rfl, hE2⟩
    have HE2 := hide (HE1.out.trans hE2); clear hE2 HE1
    go_wp2_with fail
    refine (toIntS_any _ _ _ xs _ (HI.out.ext HE2.out) (by omega)).mono ?_; rintro e w3 ⟨A3, c3, rfl, ho3, hE3⟩
    have HO3 := hide ho3; have HE3 := hide (HE2.out.trans hE3); clear ho3 hE3
    go_wp2_with fail
    refine (iLadderOk_any _ _ _ xs _ HO3.out.ints).mono ?_; rintro e w' ⟨rfl, rfl⟩
    go_wp2_with fail
    refine (toIntS_any _ _ _ xs _ (HI.out.ext HE3.out) (by omega)).mono ?_; rintro e w4 ⟨A4, c4, rfl, ho4, hE4⟩
    have HO4 := hide ho4; have HE4 := hide hE4; clear ho4 hE4
    go_wp2_with fail
    refine (eqIntS_any _ _ _ xs _ _ _ xs _ (HO3.out.ints.ext HE4.out) HO4.out.ints).mono ?_; rintro e w5 ⟨rfl, hE5⟩
    have HE5 := hide ((HE3.out.trans HE4.out).trans hE5); clear hE5
    go_wp2
    go_ret
    exact ⟨by simp, HE5.out⟩
  · go_enter Try.func6, Try.ntmps6
    go_wp2
    go_ret
    exact ⟨rfl, Ext.refl _⟩

end Go.Proofs.Ytlmepgbpddlhbaa
