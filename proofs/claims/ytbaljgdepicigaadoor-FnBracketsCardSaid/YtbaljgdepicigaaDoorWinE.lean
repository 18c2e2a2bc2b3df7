/-
  Contracts of the functions that ask who is a king, and who is a strong one.
-/
import Derived.Laws.ShiftsVar
import Derived.Test.YtbaljgdepicigaaDoorBase
import Derived.Test.YtbaljgdepicigaaDoorMgA
import Derived.Test.YtbaljgdepicigaaDoorLib
import Derived.Test.YtbaljgdepicigaaDoorAid
import Derived.Test.YtbaljgdepicigaaDoorGrid
import Derived.Test.YtbaljgdepicigaaDoorLibF
import Derived.Test.YtbaljgdepicigaaDoorStep
import Derived.Test.YtbaljgdepicigaaDoorPop
import Derived.Test.YtbaljgdepicigaaDoorSeed
import Derived.Test.YtbaljgdepicigaaDoorTour
import Derived.Test.YtbaljgdepicigaaDoorTourB
import Derived.Test.YtbaljgdepicigaaDoorWin
import Derived.Test.YtbaljgdepicigaaDoorWinC
namespace Go.Proofs.YtbaljgdepicigaaDoor
open Go.RowKit
set_option linter.unusedVariables false

-- words
theorem row_member {s : Int} {xs : List Int} {n r : Nat} (ht : tourOk s xs) (hl : xs.length = n) (hr : (r : Int) ∈ xs) {x : Int} (hx : x ∈ mems r) : ∃ a : Nat, x = (a : Int) ∧ a < n ∧ a < 8 := by
  obtain ⟨a, ha, hb, rfl⟩ := mem_mems.1 hx
  refine ⟨a, rfl, ?_, ha⟩
  have h1 := ht.2.2.1 _ hr
  rw [hl] at h1
  have h3 : ((2 ^ n : Nat) : Int) = (2 : Int) ^ n := by simp
  rw [← h3] at h1
  rcases Nat.lt_or_ge a n with h4 | h4
  · exact h4
  · rw [Nat.testBit_lt_two_pow (Nat.lt_of_lt_of_le (show r < 2 ^ n by omega) (Nat.pow_le_pow_right (by omega) h4))] at hb
    cases hb
theorem pc_le8 (m : Nat) : pc m ≤ 8 := by unfold pc; omega
theorem or_lt8 {a b : Nat} (ha : a < 256) (hb : b < 256) : a ||| b < 256 := Nat.or_lt_two_pow (n := 8) ha hb
theorem or_shl1 (out a : Nat) (ho : out < 256) (ha : a < 8) : bits .or .i64 (wrap64 (2 ^ a)) (out : Int) = ((2 ^ a ||| out : Nat) : Int) ∧ 2 ^ a ||| out < 256 := by
  have h1 : (2 : Nat) ^ a ≤ 2 ^ 7 := Nat.pow_le_pow_right (by omega) (by omega)
  have h3 : ((2 ^ a : Nat) : Int) = (2 : Int) ^ a := by simp
  have h4 : wrap64 (2 ^ a) = ((2 ^ a : Nat) : Int) := by
    rw [← h3]; generalize (2 : Nat) ^ a = p at *; unfold wrap64; omega
  rw [h4]
  exact ⟨or_i64 _ _ (by omega) (by omega), or_lt8 (by omega) ho⟩
-- kings (impl.Tour).isKing
set_option maxHeartbeats 1000000 in
theorem iKing_any (s : Int) (A : Option Addr) (n c : Nat) (xs : List Int) (a : Nat) (w : World) (ht : tourOk s xs) (h : Ints w A n c xs) (ha : a < n) :
    Calls Tryd.prog 86 #[.agg #[.int .i64 s, .slice A n c], .int .i64 (a : Int)] w fun e w' => e = .returned (.bool (decide (isKing s xs (a : Int)))) ∧ Ext w w' := by
  have hs8 := tourOk_szW ht h.len
  have HX0 := hide (tourOk_row ht)
  have HT := hide ht
  have HL := hide h.len
  have H_h := hide h
  have hfw := full_wrap (s := s) (by omega) (by omega)
  have HFW := hide hfw
  have hf256 := (fullS_ok (s := s) (by omega) (by omega)).1
  obtain ⟨b2, o2, y, hA2, hb2, hy, wy, hc2⟩ := h.get ha
  clear h ht hfw
  subst hA2
  have hyb := HX0.out y (List.mem_of_getElem? hy)
  obtain ⟨r, rfl⟩ : ∃ r : Nat, y = (r : Int) := ⟨y.toNat, by omega⟩
  have HRW := hide (show rowN xs (a : Int) = r by simp [rowN, List.getD, hy])
  have HRM := hide (fun x (hx : x ∈ mems r) => row_member HT.out HL.out (List.mem_of_getElem? hy) hx)
  have hor1 := or_shl1 r a (by omega) (by omega)
  have hor2 := or_shl r a (by omega) (by omega)
  rw [Nat.or_comm r] at hor2
  obtain ⟨o0, ho0⟩ : ∃ o0 : Nat, o0 = 2 ^ a ||| r := ⟨_, rfl⟩
  rw [← ho0] at hor1 hor2
  have HO0 := hide ho0
  have HO8 := hide hor1.2
  have HOR1 := hide hor1.1
  have HOR2 := hide hor2
  have HIL := hide (membersOf_small r (by omega))
  clear hor1 hor2 ho0
  obtain ⟨L, hL⟩ : ∃ L : List Int, L = mems r := ⟨_, rfl⟩
  have HK := hide (show isKing s xs (a : Int) ↔ orRows xs o0 L = fullS s by unfold isKing; rw [HRW.out, Int.toNat_natCast, hL, HO0.out])
  rw [← hL] at HRM HIL
  clear hL
  go_enter Tryd.func86, Tryd.ntmps86
  go_wp2
  obtain ⟨W, hW⟩ : ∃ W : World, W = w.alloc (.cells #[.int .i64 s, .slice (some ⟨b2, o2, none⟩) n c] 26) := ⟨_, rfl⟩
  have HE := hide (show Ext w W by rw [hW]; exact Ext.one _ _)
  have B0 := hide (show W.cell? ⟨w.heap.size, 0, none⟩ = some (.int .i64 s) by rw [hW]; simp)
  have B1 := hide (show W.cell? ⟨w.heap.size, 1, none⟩ = some (.slice (some ⟨b2, o2, none⟩) n c) by rw [hW]; simp)
  have HY := hide (HE.out.get hc2)
  rw [← hW]
  clear hW hc2
  have b1 := B1.out
  have hcy := HY.out
  go_quiet (fail)
  first | rw [HOR1.out] | rw [HOR2.out]
  have c0 := (Ext.drewN (Ext.refl W) nq).get B0.out
  have c1 := (Ext.drewN (Ext.refl W) nq).get B1.out
  have hcy2 := (Ext.drewN (Ext.refl W) nq).get HY.out
  have hai : (0 : Int) ≤ (a : Int) := by omega
  have han : (a : Int) < (n : Int) := by omega
  have HE1 := hide (HE.out.drewN nq)
  clear b1 hcy
  generalize W.drewN nq = W1 at *
  go_wp2_with fail
  refine (HIL.out _).mono ?_
  rintro e w7 ⟨B, d, rfl, hoB, hE7⟩
  have HLI := hide hoB.ints
  have hLm := hoB.max
  have hLl := hoB.le
  have C0 := hide (hE7.get c0)
  have C1 := hide (hE7.get c1)
  have HE7 := hide (HE1.out.trans hE7)
  clear hoB hE7 c0 c1 hcy2
  go_wp2
  go_loopw [5, 23] (fun o i wr => ∃ (j out : Nat), j ≤ L.length ∧ i = .int .i64 (j : Int) ∧ o = .int .i64 (out : Int) ∧ Hid (out = orRows xs o0 (L.take j) ∧ out < 256) ∧ Ext w7 wr) (fun _ i _ => L.length - (intOf i).toNat)
  case atStart => exact ⟨0, o0, Nat.zero_le _, rfl, rfl, hide ⟨by simp [orRows], HO8.out⟩, Ext.refl _⟩
  case round =>
    obtain ⟨j, out, hj, rfl, rfl, HO, hE⟩ := hrel
    have HEI := hide hE
    have f0 := hE.get C0.out
    have f1 := hE.get C1.out
    clear hE
    by_cases hltj : j < L.length
    · obtain ⟨b1, o1, x, hA1, hb1, hx, wx, hc1⟩ := (HLI.out.ext HEI.out).get hltj
      obtain ⟨p, rfl, hpn, hp8⟩ := HRM.out x (List.mem_of_getElem? hx)
      obtain ⟨b3, o3, y, hA3, hb3, hy3, wy3, hc3⟩ := (H_h.out.ext (HE7.out.trans HEI.out)).get hpn
      cases hA3
      subst hA1
      have HTK := hide (orRows_take xs o0 hx)
      have hyb3 := HX0.out y (List.mem_of_getElem? hy3)
      obtain ⟨q, rfl⟩ : ∃ q : Nat, y = (q : Int) := ⟨y.toNat, by omega⟩
      have HRP := hide (show rowN xs (p : Int) = q by simp [rowN, List.getD, hy3])
      have HOR := hide (or_i64 out q (by have := HO.out.2; omega) (by omega))
      have HN := hide (show out ||| q = orRows xs o0 (L.take (j + 1)) ∧ out ||| q < 256 from ⟨by rw [HTK.out, HRP.out, HO.out.1], or_lt8 HO.out.2 (by omega)⟩)
      have hpi : (0 : Int) ≤ (p : Int) := by omega
      have hpn' : (p : Int) < (n : Int) := by omega
      clear hx hy3
      go_wp2
      rw [HOR.out]
      go_roundw
      case rel => exact ⟨j + 1, out ||| q, by omega, by go_num, rfl, HN, HEI.out⟩
      case measure => (simp [intOf] <;> omega)
    · have hke : j = L.length := by omega
      have hout := HO.out.1
      rw [hke, List.take_length] at hout
      have hEQ : ((out : Int) == (fullS s : Int)) = decide (isKing s xs (a : Int)) := by
        rw [Bool.eq_iff_iff, beq_iff_eq, decide_eq_true_eq, HK.out, hout]; exact Int.ofNat_inj
      have HEQ := hide hEQ
      clear hke hEQ hout
      have hs80 : 0 ≤ s ∧ s ≤ 8 := by omega
      go_wp2
      go_ret
      first | exact ⟨ret_bool (by rw [HFW.out, HEQ.out]), HE7.out.trans HEI.out⟩ | exact ⟨ret_bool HEQ.out, (HE7.out.trans HEI.out).trans hE8⟩
-- (impl.Tour).score
theorem score_any (s : Int) (A : Option Addr) (n c : Nat) (xs : List Int) (a : Nat) (w : World) (ht : tourOk s xs) (h : Ints w A n c xs) (ha : a < n) :
    Calls Tryd.prog 59 #[.agg #[.int .i64 s, .slice A n c], .int .i64 (a : Int)] w fun e w' => e = .returned (.int .i64 (pc (rowN xs (a : Int)) : Int)) ∧ Ext w w' := by
  have HX0 := hide (tourOk_row ht)
  obtain ⟨b2, o2, y, hA2, hb2, hy, wy, hc2⟩ := h.get ha
  clear h ht
  subst hA2
  have hyb := HX0.out y (List.mem_of_getElem? hy)
  obtain ⟨r, rfl⟩ : ∃ r : Nat, y = (r : Int) := ⟨y.toNat, by omega⟩
  have HRW := hide (show rowN xs (a : Int) = r by simp [rowN, List.getD, hy])
  have hai : (0 : Int) ≤ (a : Int) := by omega
  have han : (a : Int) < (n : Int) := by omega
  have hr : (0 : Int) ≤ (r : Int) ∧ (r : Int) < 256 := by omega
  have hcW := (Ext.one w (.cells #[.int .i64 s, .slice (some ⟨b2, o2, none⟩) n c] 26)).get hc2
  go_enter Tryd.func59, Tryd.ntmps59
  go_wp2_with (go_at_call 46; refine (OnesCount_small r (by omega) _).mono ?_; rintro e w' ⟨rfl, rfl⟩)
  go_ret
  exact ⟨ret_int (by rw [HRW.out]), Ext.one _ _⟩
-- king
def kingOf (s : Int) (xs : List Int) (a : Int) : Prop := tourOk s xs ∧ (0 ≤ a ∧ a ≤ s - 1) ∧ isKing s xs a
instance (s : Int) (xs : List Int) (a : Int) : Decidable (kingOf s xs a) := by unfold kingOf; infer_instance
-- king of a number (impl.Tour).isKing
theorem iKingI_any (s : Int) (A : Option Addr) (n c : Nat) (xs : List Int) (a : Int) (w : World) (ht : tourOk s xs) (h : Ints w A n c xs) (ha : 0 ≤ a ∧ a ≤ s - 1) :
    Calls Tryd.prog 86 #[.agg #[.int .i64 s, .slice A n c], .int .i64 a] w fun e w' => e = .returned (.bool (decide (isKing s xs a))) ∧ Ext w w' := by
  have hs := tourOk_szW ht h.len
  obtain ⟨b, rfl⟩ : ∃ b : Nat, a = (b : Int) := ⟨a.toNat, by omega⟩
  exact iKing_any s A n c xs b w ht h (by omega)
-- scoreI
theorem scoreI_any (s : Int) (A : Option Addr) (n c : Nat) (xs : List Int) (a : Int) (w : World) (ht : tourOk s xs) (h : Ints w A n c xs) (ha : 0 ≤ a ∧ a ≤ s - 1) :
    Calls Tryd.prog 59 #[.agg #[.int .i64 s, .slice A n c], .int .i64 a] w fun e w' => e = .returned (.int .i64 (pc (rowN xs a) : Int)) ∧ Ext w w' := by
  have hs := tourOk_szW ht h.len
  obtain ⟨b, rfl⟩ : ∃ b : Nat, a = (b : Int) := ⟨a.toNat, by omega⟩
  exact score_any s A n c xs b w ht h (by omega)
-- impl.IsKing
theorem iIsKing_any (s : Int) (A : Option Addr) (n c : Nat) (xs : List Int) (a : Int) (w : World) (h : Ints w A n c xs) :
    Calls Tryd.prog 58 #[.agg #[.int .i64 s, .slice A n c], .int .i64 a] w fun e w' => e = .returned (.bool (decide (kingOf s xs a))) ∧ Ext w w' := by
  have H_h := hide h
  have HE0 := hide (Ext.one w (.cells #[.int .i64 s, .slice A n c] 26))
  have b0_0 : (w.alloc (.cells #[.int .i64 s, .slice A n c] 26)).cell? ⟨w.heap.size, 0, none⟩ = some (.int .i64 s) := by simp
  have b1_0 : (w.alloc (.cells #[.int .i64 s, .slice A n c] 26)).cell? ⟨w.heap.size, 1, none⟩ = some (.slice A n c) := by simp
  clear h
  by_cases hp1 : tourOk s xs
  · skip
    have HP1 := hide hp1
    have hs8 := tour_s8 hp1
    by_cases hp2 : 0 ≤ a ∧ a ≤ s - 1
    · skip
      have HP2 := hide hp2
      have HF := hide (show decide (kingOf s xs a) = decide (isKing s xs a) from (by rw [decide_eq_decide]; exact ⟨fun hh => hh.2.2, fun hh => ⟨hp1, hp2, hh⟩⟩))
      clear hp1 hp2
      go_enter Tryd.func58, Tryd.ntmps58
      go_wp2_with (first | (go_at_call 43; refine (iTourOk_any _ _ _ _ xs _ (H_h.out.ext HE0.out)).mono ?_; rw [decide_eq_true HP1.out]; rintro e w1 ⟨rfl, hE1⟩; have b0_1 := hE1.get b0_0; have b1_1 := hE1.get b1_0) | (go_at_call 47; refine (has_any _ _ _ _ _ _ ⟨by omega, by omega⟩).mono ?_; rw [decide_eq_true HP2.out]; rintro e w2 ⟨rfl, hE2⟩; have b0_2 := hE2.get b0_1; have b1_2 := hE2.get b1_1) | (go_at_call 86; refine (iKingI_any _ _ _ _ xs _ _ HP1.out (H_h.out.ext ((HE0.out.trans hE1).trans hE2)) HP2.out).mono ?_; rintro e w3 ⟨rfl, hE3⟩; have b0_3 := hE3.get b0_2; have b1_3 := hE3.get b1_2))
      go_ret
      exact ⟨ret_bool HF.out.symm, (((HE0.out.trans hE1).trans hE2).trans hE3)⟩
    · have HP2 := hide hp2
      have HF := hide (show (decide (kingOf s xs a)) = false from by (rw [decide_eq_false_iff_not]; exact fun hh => HP2.out hh.2.1))
      clear hp1 hp2
      go_enter Tryd.func58, Tryd.ntmps58
      go_wp2_with (first | (go_at_call 43; refine (iTourOk_any _ _ _ _ xs _ (H_h.out.ext HE0.out)).mono ?_; rw [decide_eq_true HP1.out]; rintro e w1 ⟨rfl, hE1⟩; have b0_1 := hE1.get b0_0; have b1_1 := hE1.get b1_0) | (go_at_call 47; refine (has_any _ _ _ _ _ _ ⟨by omega, by omega⟩).mono ?_; rw [decide_eq_false HP2.out]; rintro e w2 ⟨rfl, hE2⟩; have b0_2 := hE2.get b0_1; have b1_2 := hE2.get b1_1))
      go_ret
      exact ⟨ret_bool HF.out.symm, ((HE0.out.trans hE1).trans hE2)⟩
  · have HP1 := hide hp1
    have HF := hide (show (decide (kingOf s xs a)) = false from by (rw [decide_eq_false_iff_not]; exact fun hh => HP1.out hh.1))
    clear hp1
    go_enter Tryd.func58, Tryd.ntmps58
    go_wp2_with (first | (go_at_call 43; refine (iTourOk_any _ _ _ _ xs _ (H_h.out.ext HE0.out)).mono ?_; rw [decide_eq_false HP1.out]; rintro e w1 ⟨rfl, hE1⟩; have b0_1 := hE1.get b0_0; have b1_1 := hE1.get b1_0))
    go_ret
    exact ⟨ret_bool HF.out.symm, (HE0.out.trans hE1)⟩
-- IsStrongKing
theorem strong_half {s : Int} {p : Nat} (h0 : 0 ≤ s) (h8 : s ≤ 8) : s / 2 ≤ (p : Int) ↔ s - s % 2 ≤ 2 * (p : Int) := by omega
theorem iStrong_any (s : Int) (A : Option Addr) (n c : Nat) (xs : List Int) (a : Int) (w : World) (h : Ints w A n c xs) :
    Calls Tryd.prog 15 #[.agg #[.int .i64 s, .slice A n c], .int .i64 a] w fun e w' => e = .returned (.bool (decide (strongKing s xs a))) ∧ Ext w w' := by
  have HI := hide h
  obtain ⟨W, hW⟩ : ∃ W : World, W = w.alloc (.cells #[.int .i64 s, .slice A n c] 26) := ⟨_, rfl⟩
  have HE := hide (show Ext w W by rw [hW]; exact Ext.one _ _)
  have B0 := hide (show W.cell? ⟨w.heap.size, 0, none⟩ = some (.int .i64 s) by rw [hW]; simp)
  have B1 := hide (show W.cell? ⟨w.heap.size, 1, none⟩ = some (.slice A n c) by rw [hW]; simp)
  have HW := hide hW
  clear h hW
  by_cases hf : fixedOk s xs
  · have HF := hide hf
    by_cases hk : kingOf s xs a
    · have HK := hide hk
      have hs8 := tour_s8 hf.1
      have hp8 : pc (rowN xs a) ≤ 8 := pc_le8 _
      have HC := hide (show decide (strongKing s xs a) = decide (s / 2 ≤ (pc (rowN xs a) : Int)) by rw [decide_eq_decide]; exact ⟨fun hh => hh.2.2.2, fun hh => ⟨HF.out, HK.out.2.1, HK.out.2.2, hh⟩⟩)
      clear hf hk
      go_enter Tryd.func15, Tryd.ntmps15
      go_wp2
      rw [← HW.out]
      have d0 := after_cell B0.out
      have d1 := after_cell B1.out
      refine wp_region_ext (by kernel_rfl) (by kernel_rfl) ?_
      repeat (go_big_quiet_step ((first | (go_at_call 41; exact after_call ((isFixed_any _ _ _ _ xs _ (HI.out.ext (HE.out.trans (After.property _)))).mono fun _ _ h => by rw [decide_eq_true HF.out] at h; exact h)) | (go_at_call 58; exact after_call ((iIsKing_any _ _ _ _ xs _ _ (HI.out.ext (HE.out.trans (After.property _)))).mono fun _ _ h => by rw [decide_eq_true HK.out] at h; exact h)) | (go_at_call 59; exact after_call (scoreI_any _ _ _ _ xs _ _ HF.out.1 (HI.out.ext (HE.out.trans (After.property _))) HK.out.2.1)))))
      refine wpQuiet_nil ?_
      rintro w5 ⟨⟨w5, hE5⟩, rfl⟩
      go_wp2
      go_ret
      exact ⟨ret_bool (by rw [HC.out]), HE.out.trans hE5⟩
    · have HK := hide hk
      have HC := hide (show decide (strongKing s xs a) = false by rw [decide_eq_false_iff_not]; exact fun hh => hk ⟨hf.1, hh.2.1, hh.2.2.1⟩)
      clear hf hk
      go_enter Tryd.func15, Tryd.ntmps15
      go_wp2
      rw [← HW.out]
      have d0 := after_cell B0.out
      have d1 := after_cell B1.out
      refine wp_region_ext (by kernel_rfl) (by kernel_rfl) ?_
      repeat (go_big_quiet_step ((first | (go_at_call 41; exact after_call ((isFixed_any _ _ _ _ xs _ (HI.out.ext (HE.out.trans (After.property _)))).mono fun _ _ h => by rw [decide_eq_true HF.out] at h; exact h)) | (go_at_call 58; exact after_call ((iIsKing_any _ _ _ _ xs _ _ (HI.out.ext (HE.out.trans (After.property _)))).mono fun _ _ h => by rw [decide_eq_false HK.out] at h; exact h)))))
      refine wpQuiet_nil ?_
      rintro w5 ⟨⟨w5, hE5⟩, rfl⟩
      go_wp2
      go_ret
      exact ⟨ret_bool HC.out.symm, HE.out.trans hE5⟩
  · have HF := hide hf
    have HC := hide (show decide (strongKing s xs a) = false by rw [decide_eq_false_iff_not]; exact fun hh => hf hh.1)
    clear hf
    go_enter Tryd.func15, Tryd.ntmps15
    go_wp2
    rw [← HW.out]
    have d0 := after_cell B0.out
    have d1 := after_cell B1.out
    refine wp_region_ext (by kernel_rfl) (by kernel_rfl) ?_
    repeat (go_big_quiet_step ((first | (go_at_call 41; exact after_call ((isFixed_any _ _ _ _ xs _ (HI.out.ext (HE.out.trans (After.property _)))).mono fun _ _ h => by rw [decide_eq_false HF.out] at h; exact h)))))
    refine wpQuiet_nil ?_
    rintro w5 ⟨⟨w5, hE5⟩, rfl⟩
    go_wp2
    go_ret
    exact ⟨ret_bool HC.out.symm, HE.out.trans hE5⟩

end Go.Proofs.YtbaljgdepicigaaDoor
