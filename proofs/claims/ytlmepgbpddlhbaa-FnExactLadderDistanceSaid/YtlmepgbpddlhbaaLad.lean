/-
  Contracts of the functions on ladders.
-/
import Derived.Test.YtlmepgbpddlhbaaBase
import Derived.Test.YtlmepgbpddlhbaaMathA
import Derived.Test.YtlmepgbpddlhbaaLib
import Derived.Test.YtlmepgbpddlhbaaAid
namespace Go.Proofs.Ytlmepgbpddlhbaa
open Go.RowKit
set_option linter.unusedVariables false

-- ladderOk
def ladderOk (xs : List Int) : Prop := (1 ≤ (xs.length : Int) ∧ (xs.length : Int) ≤ 8) ∧ isOrder xs
instance (xs : List Int) : Decidable (ladderOk xs) := by unfold ladderOk; infer_instance
-- impl.LadderOk
theorem iLadderOk_any (A : Option Addr) (n c : Nat) (xs : List Int) (w : World) (h : Ints w A n c xs) :
    Calls Try.prog 21 #[.slice A n c] w fun e w' => e = .returned (.bool (decide (ladderOk xs))) ∧ w = w' := by
  have hl := h.len
  subst hl
  have HI := hide h; clear h
  by_cases hin : 1 ≤ (xs.length : Int) ∧ (xs.length : Int) ≤ 8
  · go_enter Try.func21, Try.ntmps21
    go_wp2_with (first | (go_at_call 31; refine (within_any _ _ _ _).mono ?_; rintro e w' ⟨rfl, rfl⟩) | (go_at_call 35; refine (isOrder_any _ _ _ xs _ HI.out).mono ?_; rintro e w' ⟨rfl, rfl⟩))
    go_ret
    exact ⟨ret_bool (by unfold ladderOk; simp only [hin, true_and, and_self]), rfl⟩
  · go_enter Try.func21, Try.ntmps21
    go_wp2_with (first | (go_at_call 31; refine (within_any _ _ _ _).mono ?_; rintro e w' ⟨rfl, rfl⟩))
    go_ret
    exact ⟨ret_bool (by symm; rw [decide_eq_false_iff_not]; exact fun h => hin h.1), rfl⟩
-- spec.l02Perm
theorem info_bool : (Try.prog.info? 4).map (fun i => (i.zero, i.size, i.bytes)) = some (some (.bool false), 1, 1) := by kernel_rfl
def seen (n : Nat) (xs : List Int) : List Value := (List.range n).map fun (j : Nat) => Value.bool (decide ((j : Int) ∈ xs))
theorem seen_nil (n : Nat) : List.replicate n (Value.bool false) = seen n [] := by
  simp [seen, List.map_const']
theorem seen_get {n : Nat} {xs : List Int} {j : Nat} (h : j < n) : (seen n xs)[j]? = some (.bool (decide ((j : Int) ∈ xs))) := by
  simp [seen, h]
theorem seen_set {n : Nat} {xs : List Int} {x : Nat} (h : x < n) : (seen n xs).set x (.bool true) = seen n (xs ++ [(x : Int)]) := by
  apply List.ext_getElem?
  intro j
  rw [List.getElem?_set]
  by_cases e : x = j
  · subst e
    rw [if_pos rfl, seen_get h]
    simp [seen, h]
  · rw [if_neg e]
    by_cases hj : j < n
    · rw [seen_get hj, seen_get hj]
      have : ¬ (j : Int) = (x : Int) := by omega
      simp [this]
    · rw [List.getElem?_eq_none (by simp [seen]; omega), List.getElem?_eq_none (by simp [seen]; omega)]
theorem l02Perm_any (m : Int) (A : Option Addr) (n c : Nat) (xs : List Int) (w : World) (h : Ints w A n c xs) (hsz : n ≤ 4194304) :
    Calls Try.prog 34 #[.int .i64 m, .slice A n c] w fun e w' => e = .returned (.bool (decide ((xs.length : Int) = m ∧ isOrder xs))) ∧ Ext w w' := by
  have HL := hide h.len
  have hle := h.le
  by_cases hm : (n : Int) = m
  · subst hm
    have hmk := run_make_gen (P := Try.prog) Try.underlying42 info_bool rfl n (by omega) (by omega)
    have h0 := Ow.fill w (base := w.heap.size) (E := 4) (.bool false) n (by omega) (Nat.le_refl _)
    rw [seen_nil] at h0
    go_enter Try.func34, Try.ntmps34
    go_wp2
    go_loopw [16] (fun i wr => ∃ k : Nat, k ≤ n ∧ i = .int .i64 k ∧ Hid ((∀ x ∈ xs.take k, 0 ≤ x ∧ x < n) ∧ (xs.take k).Nodup) ∧ Ow wr w.heap.size 4 (some ⟨w.heap.size, 0, none⟩) n n (seen n (xs.take k)) ∧ Ext w wr) (fun i _ => n - (intOf i).toNat)
    case atStart => exact ⟨0, Nat.zero_le _, rfl, hide (by simp), by simpa using h0, Ext.one _ _⟩
    case round =>
      obtain ⟨k, hk, rfl, HR, ho, hE⟩ := hrel
      clear h0
      by_cases hlt : k < n
      · obtain ⟨b, off, x, rfl, hb, hx, wx, hc⟩ := (h.ext hE).get hlt
        have HX := hide hx; clear hx
        have HE := hide hE; clear hE
        by_cases hin : 0 ≤ x ∧ x ≤ (n : Int) - 1
        · obtain ⟨x, rfl⟩ := Int.eq_ofNat_of_zero_le hin.1
          have hxn : x < n := by omega
          obtain ⟨b', off', y, e, hb', hlt', hy, hc', hf'⟩ := ho.get hxn
          cases e
          rw [seen_get hxn] at hy
          cases hy
          have ho1 := ho.store rfl hxn (.bool true)
          rw [seen_set hxn, ← take_snoc_of HX.out] at ho1
          simp only [Nat.zero_add] at hc' hf' ho1
          have HO := hide ho1; clear ho ho1
          by_cases hm : (x : Int) ∈ xs.take k
          · go_wp2_with (first | (go_at_call 29; refine (l01In_any _ _ _ _).mono ?_; rintro e w' ⟨rfl, rfl⟩))
            go_ret
            exact ⟨ret_bool (by symm; rw [decide_eq_false_iff_not]; rintro ⟨_, _, hnd⟩; exact ((nodup_snoc HX.out).1 (nodup_take hnd)).2 hm), HE.out⟩
          · go_wp2_with (first | (go_at_call 29; refine (l01In_any _ _ _ _).mono ?_; rintro e w' ⟨rfl, rfl⟩))
            go_roundw
            case rel =>
              refine ⟨k + 1, by omega, by go_num, hide ⟨?_, (nodup_snoc HX.out).2 ⟨HR.out.2, hm⟩⟩, HO.out, HE.out.setCell (Nat.le_refl _) _⟩
              rw [take_snoc_of HX.out]
              intro y hy
              rcases List.mem_append.1 hy with hy | hy
              · exact HR.out.1 y hy
              · obtain rfl : y = x := by simpa using hy
                omega
            case measure => (simp [intOf] <;> omega)
        · go_wp2_with (first | (go_at_call 29; refine (l01In_any _ _ _ _).mono ?_; rintro e w' ⟨rfl, rfl⟩))
          go_ret
          exact ⟨ret_bool (by symm; rw [decide_eq_false_iff_not]; rintro ⟨_, hb', _⟩; have := hb' x (List.mem_of_getElem? HX.out); rw [HL.out] at this; omega), HE.out⟩
      · have : k = n := by omega
        subst this
        have HE := hide hE; clear hE
        go_wp2
        go_ret
        refine ⟨ret_bool (by symm; rw [decide_eq_true_eq]; have := HR.out; rw [take_len HL.out] at this; exact ⟨by rw [HL.out], by rw [HL.out]; exact this.1, this.2⟩), HE.out⟩
  · have hne : ((n : Int) != m) = true := by rw [bne_iff_ne]; exact hm
    go_enter Try.func34, Try.ntmps34
    go_wp2
    go_ret
    exact ⟨ret_bool (by symm; rw [decide_eq_false_iff_not]; rintro ⟨h1, _⟩; rw [HL.out] at h1; exact hm h1), Ext.refl _⟩
-- spec.LadderOk
theorem sLadderOk_any (A : Option Addr) (n c : Nat) (xs : List Int) (w : World) (h : Ints w A n c xs) :
    Calls Try.prog 20 #[.slice A n c] w fun e w' => e = .returned (.bool (decide (ladderOk xs))) ∧ Ext w w' := by
  have hl := h.len
  subst hl
  have HI := hide h; clear h
  by_cases hin : 1 ≤ (xs.length : Int) ∧ (xs.length : Int) ≤ 8
  · go_enter Try.func20, Try.ntmps20
    go_wp2_with (first | (go_at_call 29; refine (l01In_any _ _ _ _).mono ?_; rintro e w' ⟨rfl, rfl⟩) | (go_at_call 34; refine (l02Perm_any _ _ _ _ xs _ HI.out (by omega)).mono ?_; rintro e w1 ⟨rfl, hE1⟩))
    go_ret
    exact ⟨ret_bool (by unfold ladderOk; simp [hin]), hE1⟩
  · go_enter Try.func20, Try.ntmps20
    go_wp2_with (first | (go_at_call 29; refine (l01In_any _ _ _ _).mono ?_; rintro e w' ⟨rfl, rfl⟩))
    go_ret
    exact ⟨ret_bool (by symm; rw [decide_eq_false_iff_not]; exact fun h => hin h.1), Ext.refl _⟩
-- spec.l25Place
theorem l25Place_any (A : Option Addr) (n c : Nat) (xs : List Int) (v : Int) (w : World) (h : Ints w A n c xs) :
    Calls Try.prog 36 #[.slice A n c, .int .i64 v] w fun e w' => e = .returned (.int .i64 (idx xs v)) ∧ w = w' := by
  have hn := h.max
  have hl := h.le
  have HL := hide h.len
  go_enter Try.func36, Try.ntmps36
  go_wp2
  go_loop [9] (fun i => ∃ k : Nat, k ≤ n ∧ i = .int .i64 k ∧ ¬ v ∈ xs.take k) (fun i => n - (intOf i).toNat)
  case atStart => exact ⟨0, Nat.zero_le _, rfl, by simp⟩
  case round =>
    obtain ⟨k, hk, rfl, hv⟩ := hrel
    have HV := hide hv; clear hv
    by_cases hlt : k < n
    · obtain ⟨b, off, x, rfl, hb, hx, wx, hc⟩ := h.get hlt
      have HX := hide hx; clear hx
      go_wp2
      · have e : x = v := by simpa using ‹(x == v) = true›
        subst e
        go_ret
        exact ⟨ret_int (idx_hit HV.out HX.out).symm, rfl⟩
      · have e : x ≠ v := by simpa using ‹(x == v) = false›
        go_round
        case rel => exact ⟨k + 1, by omega, by go_num, mem_take_succ HX.out HV.out (fun h => e h.symm)⟩
        case measure => (simp [intOf] <;> omega)
    · have : k = n := by omega
      subst this
      go_wp2
      go_ret
      exact ⟨ret_int (idx_miss (by have := HV.out; rwa [take_len HL.out] at this)).symm, rfl⟩
-- impl.PlaceOf
def placeOf (xs : List Int) (a : Int) : Int := if ladderOk xs then idx xs a + 1 else 0
theorem idx_small {xs : List Int} {a : Int} (h : ladderOk xs) : -1 ≤ idx xs a ∧ idx xs a ≤ 8 := by
  have := idx_bound xs a
  have := h.1
  omega
theorem iPlaceOf_any (A : Option Addr) (n c : Nat) (xs : List Int) (a : Int) (w : World) (h : Ints w A n c xs) :
    Calls Try.prog 23 #[.slice A n c, .int .i64 a] w fun e w' => e = .returned (.int .i64 (placeOf xs a)) ∧ w = w' := by
  have HI := hide h; clear h
  by_cases hok : ladderOk xs
  · have hb := idx_small (a := a) hok
    go_enter Try.func23, Try.ntmps23
    go_wp2_with (first | (go_at_call 21; refine (iLadderOk_any _ _ _ xs _ HI.out).mono ?_; rintro e w' ⟨rfl, rfl⟩) | (go_at_call 37; refine (Index_any _ _ _ xs _ _ HI.out).mono ?_; rintro e w' ⟨rfl, rfl⟩))
    go_ret
    exact ⟨ret_int (by simp [placeOf, hok]), rfl⟩
  · go_enter Try.func23, Try.ntmps23
    go_wp2_with (first | (go_at_call 21; refine (iLadderOk_any _ _ _ xs _ HI.out).mono ?_; rintro e w' ⟨rfl, rfl⟩))
    go_ret
    exact ⟨ret_int (by simp [placeOf, hok]), rfl⟩
-- spec.PlaceOf
theorem sPlaceOf_any (A : Option Addr) (n c : Nat) (xs : List Int) (a : Int) (w : World) (h : Ints w A n c xs) :
    Calls Try.prog 22 #[.slice A n c, .int .i64 a] w fun e w' => e = .returned (.int .i64 (placeOf xs a)) ∧ Ext w w' := by
  have HI := hide h; clear h
  by_cases hok : ladderOk xs
  · have hb := idx_small (a := a) hok
    go_enter Try.func22, Try.ntmps22
    go_wp2_with (first | (go_at_call 20; refine (sLadderOk_any _ _ _ xs _ HI.out).mono ?_; rintro e w1 ⟨rfl, hE1⟩) | (go_at_call 36; refine (l25Place_any _ _ _ xs _ _ (HI.out.ext hE1)).mono ?_; rintro e w' ⟨rfl, rfl⟩))
    go_ret
    exact ⟨ret_int (by simp [placeOf, hok]), hE1⟩
  · go_enter Try.func22, Try.ntmps22
    go_wp2_with (first | (go_at_call 20; refine (sLadderOk_any _ _ _ xs _ HI.out).mono ?_; rintro e w1 ⟨rfl, hE1⟩))
    go_ret
    exact ⟨ret_int (by simp [placeOf, hok]), hE1⟩
-- impl.MayChallenge
def mayChallenge (xs : List Int) (r a b : Int) : Prop := ladderOk xs ∧ (1 ≤ r ∧ r ≤ 7) ∧ a ∈ xs ∧ b ∈ xs ∧ 1 ≤ idx xs a - idx xs b ∧ idx xs a - idx xs b ≤ r
instance (xs : List Int) (r a b : Int) : Decidable (mayChallenge xs r a b) := by unfold mayChallenge; infer_instance
theorem iMayChallenge_any (A : Option Addr) (n c : Nat) (xs : List Int) (r a b : Int) (w : World) (h : Ints w A n c xs) :
    Calls Try.prog 25 #[.slice A n c, .int .i64 r, .int .i64 a, .int .i64 b] w fun e w' => e = .returned (.bool (decide (mayChallenge xs r a b))) ∧ w = w' := by
  have HI := hide h; clear h
  by_cases hok : ladderOk xs
  · by_cases hr : 1 ≤ r ∧ r ≤ 7
    · have hba := idx_small (a := a) hok
      have hbb := idx_small (a := b) hok
      by_cases ha : 0 ≤ idx xs a
      · by_cases hb : 0 ≤ idx xs b
        · go_enter Try.func25, Try.ntmps25
          go_wp2_with (first | (go_at_call 21; refine (iLadderOk_any _ _ _ xs _ HI.out).mono ?_; rintro e w' ⟨rfl, rfl⟩) | (go_at_call 37; refine (Index_any _ _ _ xs _ _ HI.out).mono ?_; rintro e w' ⟨rfl, rfl⟩) | (go_at_call 31; refine (within_any _ _ _ _).mono ?_; rintro e w' ⟨rfl, rfl⟩))
          go_ret
          exact ⟨ret_bool (by simp [mayChallenge, hok, hr, idx_ge.1 ha, idx_ge.1 hb]), rfl⟩
        · have hd : decide (0 ≤ idx xs b) = false := by simpa using hb
          go_enter Try.func25, Try.ntmps25
          go_wp2_with (first | (go_at_call 21; refine (iLadderOk_any _ _ _ xs _ HI.out).mono ?_; rintro e w' ⟨rfl, rfl⟩) | (go_at_call 37; refine (Index_any _ _ _ xs _ _ HI.out).mono ?_; rintro e w' ⟨rfl, rfl⟩) | (go_at_call 31; refine (within_any _ _ _ _).mono ?_; rintro e w' ⟨rfl, rfl⟩))
          go_ret
          exact ⟨ret_bool (by symm; rw [decide_eq_false_iff_not]; exact fun h => absurd (idx_ge.2 h.2.2.2.1) (by omega)), rfl⟩
      · have hd : decide (0 ≤ idx xs a) = false := by simpa using ha
        go_enter Try.func25, Try.ntmps25
        go_wp2_with (first | (go_at_call 21; refine (iLadderOk_any _ _ _ xs _ HI.out).mono ?_; rintro e w' ⟨rfl, rfl⟩) | (go_at_call 37; refine (Index_any _ _ _ xs _ _ HI.out).mono ?_; rintro e w' ⟨rfl, rfl⟩) | (go_at_call 31; refine (within_any _ _ _ _).mono ?_; rintro e w' ⟨rfl, rfl⟩))
        go_ret
        exact ⟨ret_bool (by symm; rw [decide_eq_false_iff_not]; exact fun h => absurd (idx_ge.2 h.2.2.1) (by omega)), rfl⟩
    · go_enter Try.func25, Try.ntmps25
      go_wp2_with (first | (go_at_call 21; refine (iLadderOk_any _ _ _ xs _ HI.out).mono ?_; rintro e w' ⟨rfl, rfl⟩) | (go_at_call 31; refine (within_any _ _ _ _).mono ?_; rintro e w' ⟨rfl, rfl⟩))
      go_ret
      exact ⟨ret_bool (by symm; rw [decide_eq_false_iff_not]; exact fun h => hr h.2.1), rfl⟩
  · go_enter Try.func25, Try.ntmps25
    go_wp2_with (first | (go_at_call 21; refine (iLadderOk_any _ _ _ xs _ HI.out).mono ?_; rintro e w' ⟨rfl, rfl⟩))
    go_ret
    exact ⟨ret_bool (by symm; rw [decide_eq_false_iff_not]; exact fun h => hok h.1), rfl⟩
-- spec.MayChallenge
theorem mem_of_order {xs : List Int} (h : isOrder xs) {a : Int} (h0 : 0 ≤ a) (h1 : a ≤ (xs.length : Int) - 1) : a ∈ xs := by
  obtain ⟨a, rfl⟩ := Int.eq_ofNat_of_zero_le h0
  have key : ∀ (n : Nat) (l : List Int), l.length = n → (∀ x ∈ l, 0 ≤ x ∧ x < n) → l.Nodup → ∀ a : Nat, a < n → (a : Int) ∈ l := by
    intro n
    induction n with
    | zero => intro l _ _ _ a ha; omega
    | succ n ih =>
      intro l hl hb hnd a ha
      by_cases hm : (n : Int) ∈ l
      · by_cases e : a = n
        · rw [e]; exact hm
        · have hl' : (l.erase (n : Int)).length = n := by rw [List.length_erase_of_mem hm, hl]; rfl
          have := ih (l.erase (n : Int)) hl' (fun x hx => by
            have h2 := hb x (List.mem_of_mem_erase hx)
            have h3 : x ≠ n := ((List.Nodup.mem_erase_iff hnd).1 hx).1
            omega) (hnd.erase _) a (by omega)
          exact List.mem_of_mem_erase this
      · exfalso
        -- n + 1 different numbers below n
        cases l with
        | nil => simp at hl
        | cons y r =>
          simp only [List.length_cons, Nat.add_right_cancel_iff] at hl
          rw [List.nodup_cons] at hnd
          have hy := hb y (by simp)
          have hyn : y ≠ n := fun e => hm (by simp [e])
          obtain ⟨y, rfl⟩ := Int.eq_ofNat_of_zero_le hy.1
          have := ih r hl (fun x hx => by
            have h2 := hb x (by simp [hx])
            have h3 : x ≠ n := fun e => hm (by simp [← e, hx])
            omega) hnd.2 y (by omega)
          exact hnd.1 this
  exact key xs.length xs rfl h.1 h.2 a (by omega)
theorem sMayChallenge_any (A : Option Addr) (n c : Nat) (xs : List Int) (r a b : Int) (w : World) (h : Ints w A n c xs) :
    Calls Try.prog 24 #[.slice A n c, .int .i64 r, .int .i64 a, .int .i64 b] w fun e w' => e = .returned (.bool (decide (mayChallenge xs r a b))) ∧ Ext w w' := by
  have hl := h.len
  subst hl
  have HI := hide h; clear h
  by_cases hok : ladderOk xs
  · have hsm := hok.1
    by_cases hr : 1 ≤ r ∧ r ≤ 7
    · by_cases ha : 0 ≤ a ∧ a ≤ (xs.length : Int) - 1
      · by_cases hb : 0 ≤ b ∧ b ≤ (xs.length : Int) - 1
        · have hba := idx_small (a := a) hok
          have hbb := idx_small (a := b) hok
          have HA := hide (mem_of_order hok.2 ha.1 ha.2)
          have HB := hide (mem_of_order hok.2 hb.1 hb.2)
          go_enter Try.func24, Try.ntmps24
          go_wp2_with (first | (go_at_call 20; refine (sLadderOk_any _ _ _ xs _ HI.out).mono ?_; rintro e w1 ⟨rfl, hE1⟩) | (go_at_call 36; refine (l25Place_any _ _ _ xs _ _ (HI.out.ext hE1)).mono ?_; rintro e w' ⟨rfl, rfl⟩) | (go_at_call 29; refine (l01In_any _ _ _ _).mono ?_; rintro e w' ⟨rfl, rfl⟩))
          go_ret
          exact ⟨ret_bool (by simp [mayChallenge, hok, hr, HA.out, HB.out]), hE1⟩
        · go_enter Try.func24, Try.ntmps24
          go_wp2_with (first | (go_at_call 20; refine (sLadderOk_any _ _ _ xs _ HI.out).mono ?_; rintro e w1 ⟨rfl, hE1⟩) | (go_at_call 29; refine (l01In_any _ _ _ _).mono ?_; rintro e w' ⟨rfl, rfl⟩))
          go_ret
          exact ⟨ret_bool (by symm; rw [decide_eq_false_iff_not]; exact fun h => hb (by have := hok.2.1 b h.2.2.2.1; omega)), hE1⟩
      · go_enter Try.func24, Try.ntmps24
        go_wp2_with (first | (go_at_call 20; refine (sLadderOk_any _ _ _ xs _ HI.out).mono ?_; rintro e w1 ⟨rfl, hE1⟩) | (go_at_call 29; refine (l01In_any _ _ _ _).mono ?_; rintro e w' ⟨rfl, rfl⟩))
        go_ret
        exact ⟨ret_bool (by symm; rw [decide_eq_false_iff_not]; exact fun h => ha (by have := hok.2.1 a h.2.2.1; omega)), hE1⟩
    · go_enter Try.func24, Try.ntmps24
      go_wp2_with (first | (go_at_call 20; refine (sLadderOk_any _ _ _ xs _ HI.out).mono ?_; rintro e w1 ⟨rfl, hE1⟩) | (go_at_call 29; refine (l01In_any _ _ _ _).mono ?_; rintro e w' ⟨rfl, rfl⟩))
      go_ret
      exact ⟨ret_bool (by symm; rw [decide_eq_false_iff_not]; exact fun h => hr h.2.1), hE1⟩
  · go_enter Try.func24, Try.ntmps24
    go_wp2_with (first | (go_at_call 20; refine (sLadderOk_any _ _ _ xs _ HI.out).mono ?_; rintro e w1 ⟨rfl, hE1⟩))
    go_ret
    exact ⟨ret_bool (by symm; rw [decide_eq_false_iff_not]; exact fun h => hok h.1), hE1⟩
-- impl.ladderDistance
theorem ladderDistance_any (A : Option Addr) (n c : Nat) (xs : List Int) (A2 : Option Addr) (n2 c2 : Nat) (ys : List Int) (w : World) (h : Ints w A n c xs) (h2 : Ints w A2 n2 c2 ys) (h8 : n ≤ 8) (h82 : n2 ≤ 8) :
    Calls Try.prog 38 #[.slice A n c, .slice A2 n2 c2] w fun e w' => e = .returned (.int .i64 (invTo xs ys n)) ∧ w = w' := by
  have HL := hide h.len
  have HI := hide h
  have hle := h.le
  have HI2 := hide h2; clear h2
  go_enter Try.func38, Try.ntmps38
  go_wp2
  go_loop [5, 12] (fun s i => ∃ k : Nat, k ≤ n ∧ i = .int .i64 k ∧ s = .int .i64 (invTo xs ys k)) (fun _ i => n - (intOf i).toNat)
  case atStart => exact ⟨0, Nat.zero_le _, rfl, rfl⟩
  case round =>
    obtain ⟨k, hk, rfl, rfl⟩ := hrel
    have hbd := invTo_le xs ys k
    have hm := mul_8 (k := k) (n := xs.length) (by omega) (by have := HL.out; omega)
    by_cases hlt : k < n
    · obtain ⟨b, off, x, rfl, hb, hx, wx, hc⟩ := h.get hlt
      have HX := hide hx; clear hx
      have hT := HI.out.tail (k := k + 1) (by omega)
      have hsl := fun w => run_tail_int (some ⟨b, off, none⟩) n c (k + 1) (by omega) (k + 1) (by omega) w
      go_wp2
      clear hsl
      generalize tailA (some ⟨b, off, none⟩) c (k + 1) = A' at hT ⊢
      go_loop [5, 22] (fun s i => ∃ j : Nat, j ≤ n - (k + 1) ∧ i = .int .i64 j ∧ s = .int .i64 (invTo xs ys k + invRow ys x ((xs.drop (k + 1)).take j) : Nat)) (fun _ i => n - (intOf i).toNat)
      case atStart => exact ⟨0, Nat.zero_le _, rfl, by simp [invRow]⟩
      case round =>
        obtain ⟨j, hj, rfl, rfl⟩ := hrel
        have hrl := invRow_le ys x ((xs.drop (k + 1)).take j)
        have hrl2 : ((xs.drop (k + 1)).take j).length ≤ j := List.length_take_le _ _
        by_cases hlj : j < n - (k + 1)
        · obtain ⟨b2, off2, y, e2, hb2, hy, wy, hcy⟩ := hT.get hlj
          cases e2
          have HY := hide (invRow_snoc ys x _ _ hy); clear hy
          by_cases hgt : idx ys y < idx ys x
          · go_wp2_with (go_at_call 37; refine (Index_any _ _ _ ys _ _ HI2.out).mono ?_; rintro e w' ⟨rfl, rfl⟩)
            go_round
            case rel => exact ⟨j + 1, by omega, by go_num, by rw [HY.out, if_pos hgt]; go_num⟩
            case measure => (simp [intOf] <;> omega)
          · go_wp2_with (go_at_call 37; refine (Index_any _ _ _ ys _ _ HI2.out).mono ?_; rintro e w' ⟨rfl, rfl⟩)
            go_round
            case rel => exact ⟨j + 1, by omega, by go_num, by rw [HY.out, if_neg (by omega)]; go_num⟩
            case measure => (simp [intOf] <;> omega)
        · have hje : j = n - (k + 1) := by omega
          have HJ := hide hje; clear hje
          go_wp2
          go_round
          case rel => exact ⟨k + 1, by omega, by go_num, by
            have e : (xs.drop (k + 1)).take j = xs.drop (k + 1) := List.take_of_length_le (by have := HL.out; have := HJ.out; simp; omega)
            have e2 : xs.getD k 0 = x := by simp [List.getD, HX.out]
            rw [e]; simp only [invTo, e2]⟩
          case measure => (simp [intOf] <;> omega)
    · have : k = n := by omega
      subst this
      go_wp2
      go_ret
      exact ⟨rfl, rfl⟩
-- impl.LadderDistance
def ladderDistance (xs ys : List Int) : Int := if ladderOk xs ∧ ladderOk ys ∧ xs.length = ys.length then invTo xs ys xs.length else -1
theorem iLadderDistance_any (A : Option Addr) (n c : Nat) (xs : List Int) (A2 : Option Addr) (n2 c2 : Nat) (ys : List Int) (w : World) (h : Ints w A n c xs) (h2 : Ints w A2 n2 c2 ys) :
    Calls Try.prog 27 #[.slice A n c, .slice A2 n2 c2] w fun e w' => e = .returned (.int .i64 (ladderDistance xs ys)) ∧ w = w' := by
  have hl := h.len
  subst hl
  have hl2 := h2.len
  subst hl2
  have HI := hide h; clear h
  have HI2 := hide h2; clear h2
  by_cases h1 : ladderOk xs
  · have hn := h1.1
    by_cases h2 : ladderOk ys
    · have hn2 := h2.1
      by_cases h3 : xs.length = ys.length
      · have h3' : ((xs.length : Int) != (ys.length : Int)) = false := by simp [h3]
        have HF := hide (show ladderDistance xs ys = invTo xs ys xs.length by simp [ladderDistance, h1, h2, h3]); clear h3
        go_enter Try.func27, Try.ntmps27
        go_wp2_with (first | (go_at_call 21; first | (with_reducible refine (iLadderOk_any _ _ _ xs _ HI.out).mono ?_; rintro e w' ⟨rfl, rfl⟩) | (with_reducible refine (iLadderOk_any _ _ _ ys _ HI2.out).mono ?_; rintro e w' ⟨rfl, rfl⟩)) | (go_at_call 38; refine (ladderDistance_any _ _ _ xs _ _ _ ys _ HI.out HI2.out (by omega) (by omega)).mono ?_; rintro e w' ⟨rfl, rfl⟩))
        go_ret
        exact ⟨ret_int HF.out.symm, rfl⟩
      · have h3' : ((xs.length : Int) != (ys.length : Int)) = true := by rw [bne_iff_ne]; omega
        go_enter Try.func27, Try.ntmps27
        go_wp2_with (first | (go_at_call 21; first | (with_reducible refine (iLadderOk_any _ _ _ xs _ HI.out).mono ?_; rintro e w' ⟨rfl, rfl⟩) | (with_reducible refine (iLadderOk_any _ _ _ ys _ HI2.out).mono ?_; rintro e w' ⟨rfl, rfl⟩)))
        go_ret
        exact ⟨ret_int (by simp [ladderDistance, h3]), rfl⟩
    · go_enter Try.func27, Try.ntmps27
      go_wp2_with (first | (go_at_call 21; first | (with_reducible refine (iLadderOk_any _ _ _ xs _ HI.out).mono ?_; rintro e w' ⟨rfl, rfl⟩) | (with_reducible refine (iLadderOk_any _ _ _ ys _ HI2.out).mono ?_; rintro e w' ⟨rfl, rfl⟩)))
      go_ret
      exact ⟨ret_int (by simp [ladderDistance, h2]), rfl⟩
  · go_enter Try.func27, Try.ntmps27
    go_wp2_with (first | (go_at_call 21; refine (iLadderOk_any _ _ _ xs _ HI.out).mono ?_; rintro e w' ⟨rfl, rfl⟩))
    go_ret
    exact ⟨ret_int (by simp [ladderDistance, h1]), rfl⟩
-- spec.LadderDistance
theorem sLadderDistance_any (A : Option Addr) (n c : Nat) (xs : List Int) (A2 : Option Addr) (n2 c2 : Nat) (ys : List Int) (w : World) (h : Ints w A n c xs) (h2 : Ints w A2 n2 c2 ys) :
    Calls Try.prog 26 #[.slice A n c, .slice A2 n2 c2] w fun e w' => e = .returned (.int .i64 (ladderDistance xs ys)) ∧ Ext w w' := by
  have HI := hide h
  have HI2 := hide h2; clear h2
  have HL := hide h.len
  have HL2 := hide HI2.out.len
  by_cases h1 : ladderOk xs
  · have h8 : n ≤ 8 := by have := h1.1; have := HL.out; omega
    by_cases h2 : ladderOk ys
    · have h82 : n2 ≤ 8 := by have := h2.1; have := HL2.out; omega
      by_cases h3 : n = n2
      · have h3' : ((n : Int) != (n2 : Int)) = false := by simp [h3]
        have HF := hide (show ladderDistance xs ys = invTo xs ys n by have := HL.out; have := HL2.out; simp only [ladderDistance, h1, h2, true_and]; rw [if_pos (by omega), HL.out]); clear h3
        have hle := h.le
        go_enter Try.func26, Try.ntmps26
        go_wp2_with (first | (go_at_call 20; first | (with_reducible refine (sLadderOk_any _ _ _ xs _ HI.out).mono ?_; rintro e w1 ⟨rfl, hE1⟩; have HI2' := hide (HI2.out.ext hE1)) | (with_reducible refine (sLadderOk_any _ _ _ ys _ HI2'.out).mono ?_; rintro e w2 ⟨rfl, hE2⟩)))
        have HE := hide (hE1.trans hE2); clear HI2' hE1 hE2
        replace HI2 := hide (HI2.out.ext HE.out)
        replace h := h.ext HE.out
        replace HI := hide h
        go_loop [5, 27] (fun s i => ∃ k : Nat, k ≤ n ∧ i = .int .i64 k ∧ s = .int .i64 (invTo xs ys k)) (fun _ i => n - (intOf i).toNat)
        case atStart => exact ⟨0, Nat.zero_le _, rfl, rfl⟩
        case round =>
          obtain ⟨k, hk, rfl, rfl⟩ := hrel
          have hbd := invTo_le xs ys k
          have hm := mul_8 (k := k) (n := xs.length) (by omega) (by have := HL.out; omega)
          by_cases hlt : k < n
          · obtain ⟨b, off, x, rfl, hb, hx, wx, hc⟩ := h.get hlt
            have HX := hide hx; clear hx
            have hT := HI.out.tail (k := k + 1) (by omega)
            have hsl := fun w => run_tail_int (some ⟨b, off, none⟩) n c (k + 1) (by omega) (k + 1) (by omega) w
            go_wp2
            clear hsl
            generalize tailA (some ⟨b, off, none⟩) c (k + 1) = A' at hT ⊢
            go_loop [5, 37] (fun s i => ∃ j : Nat, j ≤ n - (k + 1) ∧ i = .int .i64 j ∧ s = .int .i64 (invTo xs ys k + invRow ys x ((xs.drop (k + 1)).take j) : Nat)) (fun _ i => n - (intOf i).toNat)
            case atStart => exact ⟨0, Nat.zero_le _, rfl, by simp [invRow]⟩
            case round =>
              obtain ⟨j, hj, rfl, rfl⟩ := hrel
              have hrl := invRow_le ys x ((xs.drop (k + 1)).take j)
              have hrl2 : ((xs.drop (k + 1)).take j).length ≤ j := List.length_take_le _ _
              by_cases hlj : j < n - (k + 1)
              · obtain ⟨b2, off2, y, e2, hb2, hy, wy, hcy⟩ := hT.get hlj
                cases e2
                have HY := hide (invRow_snoc ys x _ _ hy); clear hy
                by_cases hgt : idx ys y < idx ys x
                · go_wp2_with (go_at_call 36; refine (l25Place_any _ _ _ ys _ _ HI2.out).mono ?_; rintro e w' ⟨rfl, rfl⟩)
                  go_round
                  case rel => exact ⟨j + 1, by omega, by go_num, by rw [HY.out, if_pos hgt]; go_num⟩
                  case measure => (simp [intOf] <;> omega)
                · go_wp2_with (go_at_call 36; refine (l25Place_any _ _ _ ys _ _ HI2.out).mono ?_; rintro e w' ⟨rfl, rfl⟩)
                  go_round
                  case rel => exact ⟨j + 1, by omega, by go_num, by rw [HY.out, if_neg (by omega)]; go_num⟩
                  case measure => (simp [intOf] <;> omega)
              · have hje : j = n - (k + 1) := by omega
                have HJ := hide hje; clear hje
                go_wp2
                go_round
                case rel => exact ⟨k + 1, by omega, by go_num, by
                  have e : (xs.drop (k + 1)).take j = xs.drop (k + 1) := List.take_of_length_le (by have := HL.out; have := HJ.out; simp; omega)
                  have e2 : xs.getD k 0 = x := by simp [List.getD, HX.out]
                  rw [e]; simp only [invTo, e2]⟩
                case measure => (simp [intOf] <;> omega)
          · have : k = n := by omega
            subst this
            go_wp2
            go_ret
            exact ⟨ret_int HF.out.symm, HE.out⟩
      · have h3' : ((n : Int) != (n2 : Int)) = true := by rw [bne_iff_ne]; omega
        go_enter Try.func26, Try.ntmps26
        go_wp2_with (first | (go_at_call 20; first | (with_reducible refine (sLadderOk_any _ _ _ xs _ HI.out).mono ?_; rintro e w1 ⟨rfl, hE1⟩; have HI2' := hide (HI2.out.ext hE1)) | (with_reducible refine (sLadderOk_any _ _ _ ys _ HI2'.out).mono ?_; rintro e w2 ⟨rfl, hE2⟩)))
        go_ret
        exact ⟨ret_int (by have := HL.out; have := HL2.out; rw [ladderDistance, if_neg (by omega)]), hE1.trans hE2⟩
    · go_enter Try.func26, Try.ntmps26
      go_wp2_with (first | (go_at_call 20; first | (with_reducible refine (sLadderOk_any _ _ _ xs _ HI.out).mono ?_; rintro e w1 ⟨rfl, hE1⟩; have HI2' := hide (HI2.out.ext hE1)) | (with_reducible refine (sLadderOk_any _ _ _ ys _ HI2'.out).mono ?_; rintro e w2 ⟨rfl, hE2⟩)))
      go_ret
      exact ⟨ret_int (by simp [ladderDistance, h2]), hE1.trans hE2⟩
  · go_enter Try.func26, Try.ntmps26
    go_wp2_with (first | (go_at_call 20; refine (sLadderOk_any _ _ _ xs _ HI.out).mono ?_; rintro e w1 ⟨rfl, hE1⟩))
    go_ret
    exact ⟨ret_int (by simp [ladderDistance, h1]), hE1⟩
-- law LadderOk
theorem law_LadderOk (A0 : Option Addr) (n0 c0 : Nat) (xs0 : List Int) (w : World) (h0 : Ints w A0 n0 c0 xs0) :
    Calls Try.prog 6 #[.slice A0 n0 c0] w fun e w' => e = .returned (.bool true) ∧ Ext w w' := by
  have hl0 := h0.len; subst hl0
  have HI0 := hide h0; clear h0
  by_cases hs0 : xs0.length ≤ 1048576
  · skip
    go_enter Try.func6, Try.ntmps6
    go_wp2_with fail
    refine (toIntS_any _ _ _ xs0 _ HI0.out (by omega)).mono ?_; rintro e w1 ⟨At1, ct1, rfl, ho, hE⟩
    have hz1 := hE.size
    have HE := hide hE
    clear hE
    have HOt1 := hide (InI.mk_ ho); clear ho
    go_wp2_with fail
    refine (sLadderOk_any _ _ _ xs0 _ HOt1.out.ints).mono ?_; rintro e w2 ⟨rfl, hE⟩
    replace HOt1 := hide (HOt1.out.ext hE)
    have hz2 := hE.size
    replace HE := hide (HE.out.trans hE)
    clear hE
    go_wp2_with fail
    refine (toIntS_any _ _ _ xs0 _ (HI0.out.ext HE.out) (by omega)).mono ?_; rintro e w3 ⟨Ax0, cx0, rfl, ho, hE⟩
    replace HOt1 := hide (HOt1.out.ext hE)
    have hz3 := hE.size
    replace HE := hide (HE.out.trans hE)
    clear hE
    have HOx0 := hide (InI.mk_ ho); clear ho
    go_wp2_with fail
    refine (iLadderOk_any _ _ _ xs0 _ HOx0.out.ints).mono ?_; rintro e w' ⟨rfl, rfl⟩
    go_wp2_with fail
    refine (toIntS_any _ _ _ xs0 _ (HI0.out.ext HE.out) (by omega)).mono ?_; rintro e w4 ⟨At3, ct3, rfl, ho, hE⟩
    replace HOt1 := hide (HOt1.out.ext hE)
    replace HOx0 := hide (HOx0.out.ext hE)
    have hz4 := hE.size
    replace HE := hide (HE.out.trans hE)
    clear hE
    have HOt3 := hide (InI.mk_ ho); clear ho
    go_wp2_with fail
    refine (eqIntS_any _ _ _ (xs0) _ _ _ (xs0) _ HOx0.out.ints HOt3.out.ints).mono ?_; rintro e w5 ⟨rfl, hE⟩
    replace HOt1 := hide (HOt1.out.ext hE)
    replace HOx0 := hide (HOx0.out.ext hE)
    replace HOt3 := hide (HOt3.out.ext hE)
    have hz5 := hE.size
    replace HE := hide (HE.out.trans hE)
    clear hE
    go_wp2
    go_ret
    exact ⟨by first | rfl | simp, HE.out⟩
  · go_enter Try.func6, Try.ntmps6
    go_wp2
    go_ret
    exact ⟨rfl, Ext.refl _⟩
-- law PlaceOf
theorem law_PlaceOf (A0 : Option Addr) (n0 c0 : Nat) (xs0 : List Int) (a1 : Int) (w : World) (h0 : Ints w A0 n0 c0 xs0) (hi1 : I64 a1) :
    Calls Try.prog 7 #[.slice A0 n0 c0, .int .i64 a1] w fun e w' => e = .returned (.bool true) ∧ Ext w w' := by
  have hl0 := h0.len; subst hl0
  have HI0 := hide h0; clear h0
  by_cases hs0 : xs0.length ≤ 1048576
  · skip
    go_enter Try.func7, Try.ntmps7
    go_wp2_with fail
    refine (toIntS_any _ _ _ xs0 _ HI0.out (by omega)).mono ?_; rintro e w1 ⟨At1, ct1, rfl, ho, hE⟩
    have hz1 := hE.size
    have HE := hide hE
    clear hE
    have HOt1 := hide (InI.mk_ ho); clear ho
    go_wp2_with fail
    refine (sPlaceOf_any _ _ _ xs0 a1 _ HOt1.out.ints).mono ?_; rintro e w2 ⟨rfl, hE⟩
    replace HOt1 := hide (HOt1.out.ext hE)
    have hz2 := hE.size
    replace HE := hide (HE.out.trans hE)
    clear hE
    go_wp2_with fail
    refine (toIntS_any _ _ _ xs0 _ (HI0.out.ext HE.out) (by omega)).mono ?_; rintro e w3 ⟨Ax0, cx0, rfl, ho, hE⟩
    replace HOt1 := hide (HOt1.out.ext hE)
    have hz3 := hE.size
    replace HE := hide (HE.out.trans hE)
    clear hE
    have HOx0 := hide (InI.mk_ ho); clear ho
    go_wp2_with fail
    refine (iPlaceOf_any _ _ _ xs0 a1 _ HOx0.out.ints).mono ?_; rintro e w' ⟨rfl, rfl⟩
    go_wp2_with fail
    refine (toIntS_any _ _ _ xs0 _ (HI0.out.ext HE.out) (by omega)).mono ?_; rintro e w4 ⟨At3, ct3, rfl, ho, hE⟩
    replace HOt1 := hide (HOt1.out.ext hE)
    replace HOx0 := hide (HOx0.out.ext hE)
    have hz4 := hE.size
    replace HE := hide (HE.out.trans hE)
    clear hE
    have HOt3 := hide (InI.mk_ ho); clear ho
    go_wp2_with fail
    refine (eqIntS_any _ _ _ (xs0) _ _ _ (xs0) _ HOx0.out.ints HOt3.out.ints).mono ?_; rintro e w5 ⟨rfl, hE⟩
    replace HOt1 := hide (HOt1.out.ext hE)
    replace HOx0 := hide (HOx0.out.ext hE)
    replace HOt3 := hide (HOt3.out.ext hE)
    have hz5 := hE.size
    replace HE := hide (HE.out.trans hE)
    clear hE
    go_wp2
    go_ret
    exact ⟨by first | rfl | simp, HE.out⟩
  · go_enter Try.func7, Try.ntmps7
    go_wp2
    go_ret
    exact ⟨rfl, Ext.refl _⟩
-- law MayChallenge
theorem law_MayChallenge (A0 : Option Addr) (n0 c0 : Nat) (xs0 : List Int) (a1 : Int) (a2 : Int) (a3 : Int) (w : World) (h0 : Ints w A0 n0 c0 xs0) (hi1 : I64 a1) (hi2 : I64 a2) (hi3 : I64 a3) :
    Calls Try.prog 8 #[.slice A0 n0 c0, .int .i64 a1, .int .i64 a2, .int .i64 a3] w fun e w' => e = .returned (.bool true) ∧ Ext w w' := by
  have hl0 := h0.len; subst hl0
  have HI0 := hide h0; clear h0
  by_cases hs0 : xs0.length ≤ 1048576
  · skip
    go_enter Try.func8, Try.ntmps8
    go_wp2_with fail
    refine (toIntS_any _ _ _ xs0 _ HI0.out (by omega)).mono ?_; rintro e w1 ⟨At1, ct1, rfl, ho, hE⟩
    have hz1 := hE.size
    have HE := hide hE
    clear hE
    have HOt1 := hide (InI.mk_ ho); clear ho
    go_wp2_with fail
    refine (sMayChallenge_any _ _ _ xs0 a1 a2 a3 _ HOt1.out.ints).mono ?_; rintro e w2 ⟨rfl, hE⟩
    replace HOt1 := hide (HOt1.out.ext hE)
    have hz2 := hE.size
    replace HE := hide (HE.out.trans hE)
    clear hE
    go_wp2_with fail
    refine (toIntS_any _ _ _ xs0 _ (HI0.out.ext HE.out) (by omega)).mono ?_; rintro e w3 ⟨Ax0, cx0, rfl, ho, hE⟩
    replace HOt1 := hide (HOt1.out.ext hE)
    have hz3 := hE.size
    replace HE := hide (HE.out.trans hE)
    clear hE
    have HOx0 := hide (InI.mk_ ho); clear ho
    go_wp2_with fail
    refine (iMayChallenge_any _ _ _ xs0 a1 a2 a3 _ HOx0.out.ints).mono ?_; rintro e w' ⟨rfl, rfl⟩
    go_wp2_with fail
    refine (toIntS_any _ _ _ xs0 _ (HI0.out.ext HE.out) (by omega)).mono ?_; rintro e w4 ⟨At3, ct3, rfl, ho, hE⟩
    replace HOt1 := hide (HOt1.out.ext hE)
    replace HOx0 := hide (HOx0.out.ext hE)
    have hz4 := hE.size
    replace HE := hide (HE.out.trans hE)
    clear hE
    have HOt3 := hide (InI.mk_ ho); clear ho
    go_wp2_with fail
    refine (eqIntS_any _ _ _ (xs0) _ _ _ (xs0) _ HOx0.out.ints HOt3.out.ints).mono ?_; rintro e w5 ⟨rfl, hE⟩
    replace HOt1 := hide (HOt1.out.ext hE)
    replace HOx0 := hide (HOx0.out.ext hE)
    replace HOt3 := hide (HOt3.out.ext hE)
    have hz5 := hE.size
    replace HE := hide (HE.out.trans hE)
    clear hE
    go_wp2
    go_ret
    exact ⟨by first | rfl | simp, HE.out⟩
  · go_enter Try.func8, Try.ntmps8
    go_wp2
    go_ret
    exact ⟨rfl, Ext.refl _⟩
-- law LadderDistance
theorem law_LadderDistance (A0 : Option Addr) (n0 c0 : Nat) (xs0 : List Int) (A1 : Option Addr) (n1 c1 : Nat) (xs1 : List Int) (w : World) (h0 : Ints w A0 n0 c0 xs0) (h1 : Ints w A1 n1 c1 xs1) :
    Calls Try.prog 9 #[.slice A0 n0 c0, .slice A1 n1 c1] w fun e w' => e = .returned (.bool true) ∧ Ext w w' := by
  have hl0 := h0.len; subst hl0
  have HI0 := hide h0; clear h0
  have hl1 := h1.len; subst hl1
  have HI1 := hide h1; clear h1
  by_cases hs0 : xs0.length ≤ 1048576
  · skip
    by_cases hs1 : xs1.length ≤ 1048576
    · skip
      go_enter Try.func9, Try.ntmps9
      go_wp2_with fail
      refine (toIntS_any _ _ _ xs0 _ HI0.out (by omega)).mono ?_; rintro e w1 ⟨At1, ct1, rfl, ho, hE⟩
      have hz1 := hE.size
      have HE := hide hE
      clear hE
      have HOt1 := hide (InI.mk_ ho); clear ho
      go_wp2_with fail
      refine (toIntS_any _ _ _ xs1 _ (HI1.out.ext HE.out) (by omega)).mono ?_; rintro e w2 ⟨At2, ct2, rfl, ho, hE⟩
      replace HOt1 := hide (HOt1.out.ext hE)
      have hz2 := hE.size
      replace HE := hide (HE.out.trans hE)
      clear hE
      have HOt2 := hide (InI.mk_ ho); clear ho
      go_wp2_with fail
      refine (sLadderDistance_any _ _ _ xs0 _ _ _ xs1 _ HOt1.out.ints HOt2.out.ints).mono ?_; rintro e w3 ⟨rfl, hE⟩
      replace HOt1 := hide (HOt1.out.ext hE)
      replace HOt2 := hide (HOt2.out.ext hE)
      have hz3 := hE.size
      replace HE := hide (HE.out.trans hE)
      clear hE
      go_wp2_with fail
      refine (toIntS_any _ _ _ xs0 _ (HI0.out.ext HE.out) (by omega)).mono ?_; rintro e w4 ⟨Ax0, cx0, rfl, ho, hE⟩
      replace HOt1 := hide (HOt1.out.ext hE)
      replace HOt2 := hide (HOt2.out.ext hE)
      have hz4 := hE.size
      replace HE := hide (HE.out.trans hE)
      clear hE
      have HOx0 := hide (InI.mk_ ho); clear ho
      go_wp2_with fail
      refine (toIntS_any _ _ _ xs1 _ (HI1.out.ext HE.out) (by omega)).mono ?_; rintro e w5 ⟨Ax1, cx1, rfl, ho, hE⟩
      replace HOt1 := hide (HOt1.out.ext hE)
      replace HOt2 := hide (HOt2.out.ext hE)
      replace HOx0 := hide (HOx0.out.ext hE)
      have hz5 := hE.size
      replace HE := hide (HE.out.trans hE)
      clear hE
      have HOx1 := hide (InI.mk_ ho); clear ho
      go_wp2_with fail
      refine (iLadderDistance_any _ _ _ xs0 _ _ _ xs1 _ HOx0.out.ints HOx1.out.ints).mono ?_; rintro e w' ⟨rfl, rfl⟩
      go_wp2_with fail
      refine (toIntS_any _ _ _ xs0 _ (HI0.out.ext HE.out) (by omega)).mono ?_; rintro e w6 ⟨At5, ct5, rfl, ho, hE⟩
      replace HOt1 := hide (HOt1.out.ext hE)
      replace HOt2 := hide (HOt2.out.ext hE)
      replace HOx0 := hide (HOx0.out.ext hE)
      replace HOx1 := hide (HOx1.out.ext hE)
      have hz6 := hE.size
      replace HE := hide (HE.out.trans hE)
      clear hE
      have HOt5 := hide (InI.mk_ ho); clear ho
      go_wp2_with fail
      refine (eqIntS_any _ _ _ (xs0) _ _ _ (xs0) _ HOx0.out.ints HOt5.out.ints).mono ?_; rintro e w7 ⟨rfl, hE⟩
      replace HOt1 := hide (HOt1.out.ext hE)
      replace HOt2 := hide (HOt2.out.ext hE)
      replace HOx0 := hide (HOx0.out.ext hE)
      replace HOx1 := hide (HOx1.out.ext hE)
      replace HOt5 := hide (HOt5.out.ext hE)
      have hz7 := hE.size
      replace HE := hide (HE.out.trans hE)
      clear hE
      go_wp2_with fail
      refine (toIntS_any _ _ _ xs1 _ (HI1.out.ext HE.out) (by omega)).mono ?_; rintro e w8 ⟨At6, ct6, rfl, ho, hE⟩
      replace HOt1 := hide (HOt1.out.ext hE)
      replace HOt2 := hide (HOt2.out.ext hE)
      replace HOx0 := hide (HOx0.out.ext hE)
      replace HOx1 := hide (HOx1.out.ext hE)
      replace HOt5 := hide (HOt5.out.ext hE)
      have hz8 := hE.size
      replace HE := hide (HE.out.trans hE)
      clear hE
      have HOt6 := hide (InI.mk_ ho); clear ho
      go_wp2_with fail
      refine (eqIntS_any _ _ _ (xs1) _ _ _ (xs1) _ HOx1.out.ints HOt6.out.ints).mono ?_; rintro e w9 ⟨rfl, hE⟩
      replace HOt1 := hide (HOt1.out.ext hE)
      replace HOt2 := hide (HOt2.out.ext hE)
      replace HOx0 := hide (HOx0.out.ext hE)
      replace HOx1 := hide (HOx1.out.ext hE)
      replace HOt5 := hide (HOt5.out.ext hE)
      replace HOt6 := hide (HOt6.out.ext hE)
      have hz9 := hE.size
      replace HE := hide (HE.out.trans hE)
      clear hE
      go_wp2
      go_ret
      exact ⟨by first | rfl | simp, HE.out⟩
    · go_enter Try.func9, Try.ntmps9
      go_wp2
      go_ret
      exact ⟨rfl, Ext.refl _⟩
  · go_enter Try.func9, Try.ntmps9
    go_wp2
    go_ret
    exact ⟨rfl, Ext.refl _⟩

end Go.Proofs.Ytlmepgbpddlhbaa
