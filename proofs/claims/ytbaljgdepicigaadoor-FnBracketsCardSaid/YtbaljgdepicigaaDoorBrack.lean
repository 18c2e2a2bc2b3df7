/-
  Contracts of the functions on brackets.
-/
import Derived.Laws.ShiftsVar
import Derived.Deep.RegionHeld3
import Derived.Test.YtbaljgdepicigaaDoorBase
import Derived.Test.YtbaljgdepicigaaDoorMgA
import Derived.Test.YtbaljgdepicigaaDoorLib
import Derived.Test.YtbaljgdepicigaaDoorAid
import Derived.Test.YtbaljgdepicigaaDoorGrid
import Derived.Test.YtbaljgdepicigaaDoorLibF
import Derived.Test.YtbaljgdepicigaaDoorSeed
import Derived.Test.YtbaljgdepicigaaDoorTour
import Derived.Test.YtbaljgdepicigaaDoorTourB
namespace Go.Proofs.YtbaljgdepicigaaDoor
open Go.RowKit
set_option linter.unusedVariables false

-- slices.Max from -1 on
theorem Max3_any (A : Option Addr) (n c : Nat) (xs : List Int) (w : World) (h : Ints w A n c xs) (h0 : 0 < n) (hp : ∀ x ∈ xs, -1 ≤ x) :
    Calls Tryd.prog 53 #[.slice A n c] w fun e w' => e = .returned (.int .i64 (xs.foldl max (-1))) ∧ w = w' := by
  have hn := h.max
  have hl := h.le
  have HL := hide h.len
  have HP := hide hp; clear hp
  obtain ⟨b, off, x0, rfl, hb, hx0, wx0, hc0⟩ := h.get h0
  have hc0' := hc0
  simp only [Nat.add_zero] at hc0'
  have h01 := HP.out x0 (List.mem_of_getElem? hx0)
  have HX0 := hide hx0; clear hx0 hc0
  go_enter Tryd.func53, Tryd.ntmps53
  go_wp2
  go_loop [3, 4] (fun m i => ∃ k : Nat, 1 ≤ k ∧ k ≤ n ∧ i = .int .i64 k ∧ m = .int .i64 ((xs.take k).foldl max (-1))) (fun _ i => n - (intOf i).toNat)
  case atStart => exact ⟨1, by omega, by omega, rfl, by
    rw [show (1 : Nat) = 0 + 1 from rfl, take_snoc_of HX0.out, List.take_zero]
    simp; omega⟩
  case round =>
    obtain ⟨k, hk1, hk, rfl, rfl⟩ := hrel
    clear hc0'
    by_cases hlt : k < n
    · obtain ⟨b', off', x, e, hb', hx, wx, hc⟩ := h.get hlt
      cases e
      have HS : Hid ((xs.take (k + 1)).foldl max (-1) = max ((xs.take k).foldl max (-1)) x) := hide (by rw [take_snoc_of hx, List.foldl_append]; rfl)
      clear hx
      go_wp2
      go_round
      case rel => exact ⟨k + 1, by omega, by omega, by go_num, by rw [HS.out]; exact congrArg _ (by split <;> omega)⟩
      case measure => (simp [intOf] <;> omega)
    · have : k = n := by omega
      subst this
      go_wp2
      go_ret
      exact ⟨ret_int (by rw [take_len HL.out]), rfl⟩
-- impl.BracketOk
theorem iBracketOk_any (s : Int) (A : Option Addr) (n c : Nat) (xs : List Int) (A2 : Option Addr) (n2 c2 : Nat) (br : List Int) (w : World) (h : Ints w A n c xs) (h2 : Ints w A2 n2 c2 br) :
    Calls Tryd.prog 12 #[.agg #[.int .i64 s, .slice A n c], .slice A2 n2 c2] w fun e w' => e = .returned (.bool (decide (bracketOk s xs br))) ∧ Ext w w' := by
  have H_h := hide h
  have H_h2 := hide h2
  have HL2 := hide h2.len
  have hle2 := h2.le
  have hmx2 := h2.max
  have HE0 := hide (Ext.one w (.cells #[.int .i64 s, .slice A n c] 26))
  have b0_0 : (w.alloc (.cells #[.int .i64 s, .slice A n c] 26)).cell? ⟨w.heap.size, 0, none⟩ = some (.int .i64 s) := by simp
  have b1_0 : (w.alloc (.cells #[.int .i64 s, .slice A n c] 26)).cell? ⟨w.heap.size, 1, none⟩ = some (.slice A n c) := by simp
  clear h h2
  by_cases hp1 : tourOk s xs
  · skip
    have HP1 := hide hp1
    have hs8 := hp1.1
    by_cases hp2 : brkSize (n2 : Int)
    · skip
      have HP2 := hide hp2
      have hn28 : 1 ≤ n2 ∧ n2 ≤ 8 := by unfold brkSize at hp2; omega
      by_cases hp3 : ∀ x ∈ br, -1 ≤ x ∧ x ≤ s - 1
      · skip
        have HP3 := hide hp3
        by_cases hp4 : ¬ br.foldl max (-1) < 0
        · skip
          have HP4 := hide hp4
          have hmf := hp4
          clear hp1 hp2 hp3 hp4
          go_enter Tryd.func12, Tryd.ntmps12
          go_wp2_with (first | (go_at_call 43; refine (iTourOk_any _ _ _ _ xs _ (H_h.out.ext HE0.out)).mono ?_; rw [decide_eq_true HP1.out]; rintro e w1 ⟨rfl, hE1⟩; have b0_1 := hE1.get b0_0; have b1_1 := hE1.get b1_0) | (go_at_call 45; refine (isBracketSize_any _ _).mono ?_; rw [decide_eq_true HP2.out]; rintro e w' ⟨rfl, rfl⟩) | (go_at_call 52; refine (allWithin_any _ _ _ br _ _ _ (H_h2.out.ext (HE0.out.trans hE1))).mono ?_; rw [decide_eq_true HP3.out]; rintro e w2 ⟨rfl, hE2⟩; have b0_2 := hE2.get b0_1; have b1_2 := hE2.get b1_1) | (go_at_call 53; refine (Max3_any _ _ _ br _ (H_h2.out.ext ((HE0.out.trans hE1).trans hE2)) (by omega) (fun x hx => (HP3.out x hx).1)).mono ?_; rintro e w' ⟨rfl, rfl⟩))
          have HE := hide ((HE0.out.trans hE1).trans hE2)
          have HI2 := hide (H_h2.out.ext ((HE0.out.trans hE1).trans hE2))
          clear hmf
          go_loop [31] (fun i => ∃ k : Nat, k ≤ n2 ∧ i = .int .i64 k ∧ Hid (plrs (br.take k)).Nodup) (fun i => n2 - (intOf i).toNat)
          case atStart => exact ⟨0, Nat.zero_le _, rfl, hide (by simp [plrs])⟩
          case round =>
            obtain ⟨k, hk, rfl, HV⟩ := hrel
            by_cases hlt : k < n2
            · obtain ⟨b, off, x, rfl, hb, hx, wx, hc⟩ := HI2.out.get hlt
              have HX := hide hx; clear hx
              have HS := hide (plrs_snoc HX.out)
              by_cases hx0 : 0 ≤ x
              · by_cases hm : x ∈ br.take k
                · have HM := hide hm
                  have HD := hide (decide_eq_true hm)
                  clear hm
                  go_wp2_with (go_at_call 54; refine (Contains_any _ _ _ (br.take k) _ _ (HI2.out.take (by omega))).mono ?_; rw [HD.out]; rintro e w' ⟨rfl, rfl⟩)
                  go_ret
                  refine ⟨ret_bool ?_, HE.out⟩
                  symm; rw [decide_eq_false_iff_not]
                  intro hd
                  have h5 := plrs_take (k + 1) hd.2.2.2.2
                  rw [HS.out, if_pos hx0, nodup_push] at h5
                  exact h5.2 (mem_plrs.2 ⟨HM.out, hx0⟩)
                · have HM := hide hm
                  have HD := hide (decide_eq_false hm)
                  clear hm
                  go_wp2_with (go_at_call 54; refine (Contains_any _ _ _ (br.take k) _ _ (HI2.out.take (by omega))).mono ?_; rw [HD.out]; rintro e w' ⟨rfl, rfl⟩)
                  go_round
                  case rel => exact ⟨k + 1, by omega, by go_num, hide (by rw [HS.out, if_pos hx0, nodup_push]; exact ⟨HV.out, fun hh => HM.out (mem_plrs.1 hh).1⟩)⟩
                  case measure => (simp [intOf] <;> omega)
              · go_wp2
                go_round
                case rel => exact ⟨k + 1, by omega, by go_num, hide (by rw [HS.out, if_neg hx0, List.append_nil]; exact HV.out)⟩
                case measure => (simp [intOf] <;> omega)
            · have hke : k = n2 := by omega
              subst hke
              go_wp2
              go_ret
              refine ⟨ret_bool ?_, HE.out⟩
              symm; rw [decide_eq_true_eq]
              have hv := HV.out
              rw [take_len HL2.out] at hv
              exact ⟨HP1.out, by rw [HL2.out]; exact HP2.out, HP3.out, plrs_max.2 (by have := HP4.out; omega), hv⟩
        · have HP4 := hide hp4
          have HF := hide (show (decide (bracketOk s xs br)) = false from by
            rw [decide_eq_false_iff_not]
            unfold bracketOk
            intro hh; exact HP4.out (plrs_max.1 hh.2.2.2.1))
          have hmf := hp4
          clear hp1 hp2 hp3 hp4
          go_enter Tryd.func12, Tryd.ntmps12
          go_wp2_with (first | (go_at_call 43; refine (iTourOk_any _ _ _ _ xs _ (H_h.out.ext HE0.out)).mono ?_; rw [decide_eq_true HP1.out]; rintro e w1 ⟨rfl, hE1⟩; have b0_1 := hE1.get b0_0; have b1_1 := hE1.get b1_0) | (go_at_call 45; refine (isBracketSize_any _ _).mono ?_; rw [decide_eq_true HP2.out]; rintro e w' ⟨rfl, rfl⟩) | (go_at_call 52; refine (allWithin_any _ _ _ br _ _ _ (H_h2.out.ext (HE0.out.trans hE1))).mono ?_; rw [decide_eq_true HP3.out]; rintro e w2 ⟨rfl, hE2⟩; have b0_2 := hE2.get b0_1; have b1_2 := hE2.get b1_1) | (go_at_call 53; refine (Max3_any _ _ _ br _ (H_h2.out.ext ((HE0.out.trans hE1).trans hE2)) (by omega) (fun x hx => (HP3.out x hx).1)).mono ?_; rintro e w' ⟨rfl, rfl⟩))
          go_ret
          exact ⟨ret_bool HF.out.symm, ((HE0.out.trans hE1).trans hE2)⟩
      · have HP3 := hide hp3
        have HF := hide (show (decide (bracketOk s xs br)) = false from by
          rw [decide_eq_false_iff_not]
          unfold bracketOk
          intro hh; exact HP3.out (by first | exact hh.1 | exact hh.2.1 | exact hh.2.2.1 | exact hh.2.2 | exact hh.2.2.2 | exact hh.2.2.2.1 | exact hh | (have := hh; omega) | simp_all))
        clear hp1 hp2 hp3
        go_enter Tryd.func12, Tryd.ntmps12
        go_wp2_with (first | (go_at_call 43; refine (iTourOk_any _ _ _ _ xs _ (H_h.out.ext HE0.out)).mono ?_; rw [decide_eq_true HP1.out]; rintro e w1 ⟨rfl, hE1⟩; have b0_1 := hE1.get b0_0; have b1_1 := hE1.get b1_0) | (go_at_call 45; refine (isBracketSize_any _ _).mono ?_; rw [decide_eq_true HP2.out]; rintro e w' ⟨rfl, rfl⟩) | (go_at_call 52; refine (allWithin_any _ _ _ br _ _ _ (H_h2.out.ext (HE0.out.trans hE1))).mono ?_; rw [decide_eq_false HP3.out]; rintro e w2 ⟨rfl, hE2⟩; have b0_2 := hE2.get b0_1; have b1_2 := hE2.get b1_1))
        go_ret
        exact ⟨ret_bool HF.out.symm, ((HE0.out.trans hE1).trans hE2)⟩
    · have HP2 := hide hp2
      have HF := hide (show (decide (bracketOk s xs br)) = false from by
        rw [decide_eq_false_iff_not]
        unfold bracketOk
        intro hh; exact HP2.out (by have := hh.2.1; rwa [HL2.out] at this))
      clear hp1 hp2
      go_enter Tryd.func12, Tryd.ntmps12
      go_wp2_with (first | (go_at_call 43; refine (iTourOk_any _ _ _ _ xs _ (H_h.out.ext HE0.out)).mono ?_; rw [decide_eq_true HP1.out]; rintro e w1 ⟨rfl, hE1⟩; have b0_1 := hE1.get b0_0; have b1_1 := hE1.get b1_0) | (go_at_call 45; refine (isBracketSize_any _ _).mono ?_; rw [decide_eq_false HP2.out]; rintro e w' ⟨rfl, rfl⟩))
      go_ret
      exact ⟨ret_bool HF.out.symm, (HE0.out.trans hE1)⟩
  · have HP1 := hide hp1
    have HF := hide (show (decide (bracketOk s xs br)) = false from by
      rw [decide_eq_false_iff_not]
      unfold bracketOk
      intro hh; exact HP1.out (by first | exact hh.1 | exact hh.2.1 | exact hh.2.2.1 | exact hh.2.2 | exact hh.2.2.2 | exact hh.2.2.2.1 | exact hh | (have := hh; omega) | simp_all))
    clear hp1
    go_enter Tryd.func12, Tryd.ntmps12
    go_wp2_with (first | (go_at_call 43; refine (iTourOk_any _ _ _ _ xs _ (H_h.out.ext HE0.out)).mono ?_; rw [decide_eq_false HP1.out]; rintro e w1 ⟨rfl, hE1⟩; have b0_1 := hE1.get b0_0; have b1_1 := hE1.get b1_0))
    go_ret
    exact ⟨ret_bool HF.out.symm, (HE0.out.trans hE1)⟩
-- spec.BracketOk
theorem shl_nat (a : Nat) (h : a < 8) : wrap64 (2 ^ a) = ((2 ^ a : Nat) : Int) ∧ (2 : Nat) ^ a ≤ 128 := by
  have h1 : (2 : Nat) ^ a ≤ 2 ^ 7 := Nat.pow_le_pow_right (by omega) (by omega)
  have h3 : ((2 ^ a : Nat) : Int) = (2 : Int) ^ a := by simp
  rw [← h3]
  generalize (2 : Nat) ^ a = p at *
  refine ⟨by unfold wrap64; omega, h1⟩
theorem seen_bit {l : List Int} (hl : ∀ x ∈ l, 0 ≤ x ∧ x < 8) (hn : l.Nodup) {b : Nat} (hb : b < 8) : (bits BinOp.and IntKind.i64 ((setN l : Int) / 2 ^ b) 1 == 1) = decide ((b : Int) ∈ l) := by
  obtain ⟨h1, h2⟩ := setN_bits l hl hn
  rw [and_bit2 (by omega) (by omega), Bool.eq_iff_iff, beq_iff_eq, bitAt_iff, h2 b hb]
theorem wrap_seen {l : List Int} {a : Nat} (hl : ∀ x ∈ l, 0 ≤ x ∧ x < 8) (hn : l.Nodup) (ha : a < 8) : wrap64 ((setN l : Int) + wrap64 (2 ^ a)) = (setN (l ++ [(a : Int)]) : Int) := by
  obtain ⟨h1, _⟩ := setN_bits l hl hn
  obtain ⟨h2, h3⟩ := shl_nat a ha
  rw [setN_snoc, h2, Int.toNat_natCast]
  clear h2
  generalize (2 : Nat) ^ a = p at *
  unfold wrap64
  omega
-- spec.BracketOk
theorem sBracketOk_any (s : Int) (A : Option Addr) (n c : Nat) (xs : List Int) (A2 : Option Addr) (n2 c2 : Nat) (br : List Int) (w : World) (h : Ints w A n c xs) (h2 : Ints w A2 n2 c2 br) :
    Calls Tryd.prog 65 #[.agg #[.int .i64 s, .slice A n c], .slice A2 n2 c2] w fun e w' => e = .returned (.bool (decide (bracketOk s xs br))) ∧ Ext w w' := by
  have H_h := hide h
  have H_h2 := hide h2
  have HL2 := hide h2.len
  have hle2 := h2.le
  have hmx2 := h2.max
  have HE0 := hide (Ext.one w (.cells #[.int .i64 s, .slice A n c] 26))
  have b0_0 : (w.alloc (.cells #[.int .i64 s, .slice A n c] 26)).cell? ⟨w.heap.size, 0, none⟩ = some (.int .i64 s) := by simp
  have b1_0 : (w.alloc (.cells #[.int .i64 s, .slice A n c] 26)).cell? ⟨w.heap.size, 1, none⟩ = some (.slice A n c) := by simp
  clear h h2
  by_cases hp1 : tourOk s xs
  · skip
    have HP1 := hide hp1
    have hs8 := hp1.1
    by_cases hp2 : brkSize (n2 : Int)
    · skip
      have HP2 := hide hp2
      have hn28 : 1 ≤ n2 ∧ n2 ≤ 8 := by unfold brkSize at hp2; omega
      clear hp1 hp2
      go_enter Tryd.func65, Tryd.ntmps65
      go_wp2_with (first | (go_at_call 94; refine (sTourOk_any _ _ _ _ xs _ (H_h.out.ext HE0.out)).mono ?_; rw [decide_eq_true HP1.out]; rintro e w1 ⟨rfl, hE1⟩; have b0_1 := hE1.get b0_0; have b1_1 := hE1.get b1_0) | (go_at_call 95; refine (l21Size_any _ _).mono ?_; rw [decide_eq_true HP2.out]; rintro e w' ⟨rfl, rfl⟩))
      have HE := hide (HE0.out.trans hE1)
      have HI2 := hide (H_h2.out.ext (HE0.out.trans hE1))
      have B0 := hide b0_1; have B1 := hide b1_1
      clear b0_0 b1_0 hE1
      go_loop [5, 19] (fun m i => ∃ k : Nat, k ≤ n2 ∧ i = .int .i64 k ∧ m = .int .i64 (setN (plrs (br.take k)) : Int) ∧ Hid ((plrs (br.take k)).Nodup ∧ ∀ x ∈ br.take k, -1 ≤ x ∧ x ≤ s - 1)) (fun _ i => n2 - (intOf i).toNat)
      case atStart => exact ⟨0, Nat.zero_le _, rfl, rfl, hide (by simp [plrs])⟩
      case round =>
        obtain ⟨k, hk, rfl, rfl, HV⟩ := hrel
        have hPB : ∀ x ∈ plrs (br.take k), 0 ≤ x ∧ x < 8 := fun x hx => by
          have h1 := mem_plrs.1 hx
          have h2 := HV.out.2 x h1.1
          omega
        have HPB := hide hPB; clear hPB
        have hsn := (setN_bits _ HPB.out HV.out.1).1
        by_cases hlt : k < n2
        · obtain ⟨b, off, x, rfl, hb, hx, wx, hc⟩ := HI2.out.get hlt
          have HX := hide hx; clear hx
          have HS := hide (plrs_snoc HX.out)
          have HTK : Hid (-1 ≤ x ∧ x ≤ s - 1 → ∀ z ∈ br.take (k + 1), -1 ≤ z ∧ z ≤ s - 1) := hide (fun hxx z hz => by
            rw [take_snoc_of HX.out] at hz
            rcases List.mem_append.1 hz with hz | hz
            · exact HV.out.2 z hz
            · obtain rfl : z = x := by simpa using hz
              exact hxx)
          by_cases hx1 : x = -1
          · subst hx1
            go_wp2
            go_round
            case rel => exact ⟨k + 1, by omega, by go_num, by rw [HS.out, if_neg (by omega), List.append_nil], hide ⟨by rw [HS.out, if_neg (by omega), List.append_nil]; exact HV.out.1, HTK.out (by omega)⟩⟩
            case measure => (simp [intOf] <;> omega)
          · have hbx : (x == -1) = false := by simpa using hx1
            clear hx1
            by_cases hin : 0 ≤ x ∧ x ≤ s - 1
            · have HIN := hide (decide_eq_true hin)
              obtain ⟨a, rfl⟩ : ∃ a : Nat, x = (a : Int) := ⟨x.toNat, by omega⟩
              have HSB := hide (seen_bit HPB.out HV.out.1 (b := a) (by omega))
              have HWS := hide (wrap_seen HPB.out HV.out.1 (a := a) (by omega))
              have hsh := shr_bound2 (m := (setN (plrs (br.take k)) : Int)) (by omega) a
              have HPX : Hid (plrs (br.take (k + 1)) = plrs (br.take k) ++ [(a : Int)]) := hide (by rw [HS.out, if_pos (by omega)])
              by_cases hm : (a : Int) ∈ plrs (br.take k)
              · have hbb : (bits BinOp.and IntKind.i64 ((setN (plrs (br.take k)) : Int) / 2 ^ a) 1 == 1) = true := by rw [HSB.out]; exact decide_eq_true hm
                have HM := hide hm
                clear hm
                go_wp2_with (go_at_call 96; refine (l01In_any _ _ _ _).mono ?_; rw [HIN.out]; rintro e w' ⟨rfl, rfl⟩)
                go_ret
                refine ⟨ret_bool ?_, HE.out⟩
                symm; rw [decide_eq_false_iff_not]
                intro hd
                have h5 := plrs_take (k + 1) hd.2.2.2.2
                rw [HPX.out, nodup_push] at h5
                exact h5.2 HM.out
              · have hbb : (bits BinOp.and IntKind.i64 ((setN (plrs (br.take k)) : Int) / 2 ^ a) 1 == 1) = false := by rw [HSB.out]; exact decide_eq_false hm
                have HM := hide hm
                clear hm
                go_wp2_with (go_at_call 96; refine (l01In_any _ _ _ _).mono ?_; rw [HIN.out]; rintro e w' ⟨rfl, rfl⟩)
                go_round
                case rel => exact ⟨k + 1, by omega, by go_num, by first | (rw [HPX.out, ← HWS.out]) | (rw [HPX.out, ← HWS.out]; go_num), hide ⟨by rw [HPX.out, nodup_push]; exact ⟨HV.out.1, HM.out⟩, HTK.out (by omega)⟩⟩
                case measure => (simp [intOf] <;> omega)
            · have HIN := hide (decide_eq_false hin)
              have HNB : Hid (¬ bracketOk s xs br) := hide (fun hd => by have h5 := hd.2.2.1 x (List.mem_of_getElem? HX.out); have h6 : ¬ x = -1 := (by simpa using hbx); exact hin ⟨by omega, by omega⟩)
              clear hin
              go_wp2_with (go_at_call 96; refine (l01In_any _ _ _ _).mono ?_; rw [HIN.out]; rintro e w' ⟨rfl, rfl⟩)
              go_ret
              exact ⟨ret_bool (by symm; rw [decide_eq_false_iff_not]; exact HNB.out), HE.out⟩
        · have hke : k = n2 := by omega
          subst hke
          go_wp2
          go_ret
          refine ⟨ret_bool ?_, HE.out⟩
          rw [Bool.eq_iff_iff, decide_eq_true_eq, decide_eq_true_eq]
          have hv := HV.out
          rw [take_len HL2.out] at hv ⊢
          have hpos := setN_pos (plrs br)
          constructor
          · intro hh
            have h6 : 0 < setN (plrs br) := by omega
            exact ⟨HP1.out, by rw [HL2.out]; exact HP2.out, hv.2, hpos.1 h6, hv.1⟩
          · intro hd
            have h6 := hpos.2 hd.2.2.2.1
            omega
    · have HP2 := hide hp2
      have HF := hide (show (decide (bracketOk s xs br)) = false from by
        rw [decide_eq_false_iff_not]
        unfold bracketOk
        intro hh; exact HP2.out (by have := hh.2.1; rwa [HL2.out] at this))
      clear hp1 hp2
      go_enter Tryd.func65, Tryd.ntmps65
      go_wp2_with (first | (go_at_call 94; refine (sTourOk_any _ _ _ _ xs _ (H_h.out.ext HE0.out)).mono ?_; rw [decide_eq_true HP1.out]; rintro e w1 ⟨rfl, hE1⟩; have b0_1 := hE1.get b0_0; have b1_1 := hE1.get b1_0) | (go_at_call 95; refine (l21Size_any _ _).mono ?_; rw [decide_eq_false HP2.out]; rintro e w' ⟨rfl, rfl⟩))
      go_ret
      exact ⟨ret_bool HF.out.symm, (HE0.out.trans hE1)⟩
  · have HP1 := hide hp1
    have HF := hide (show (decide (bracketOk s xs br)) = false from by
      rw [decide_eq_false_iff_not]
      unfold bracketOk
      intro hh; exact HP1.out (by first | exact hh.1 | exact hh.2.1 | exact hh.2.2.1 | exact hh.2.2 | exact hh.2.2.2 | exact hh.2.2.2.1 | exact hh | (have := hh; omega) | simp_all))
    clear hp1
    go_enter Tryd.func65, Tryd.ntmps65
    go_wp2_with (first | (go_at_call 94; refine (sTourOk_any _ _ _ _ xs _ (H_h.out.ext HE0.out)).mono ?_; rw [decide_eq_false HP1.out]; rintro e w1 ⟨rfl, hE1⟩; have b0_1 := hE1.get b0_0; have b1_1 := hE1.get b1_0))
    go_ret
    exact ⟨ret_bool HF.out.symm, (HE0.out.trans hE1)⟩

end Go.Proofs.YtbaljgdepicigaaDoor
