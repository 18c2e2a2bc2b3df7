/-
  Contracts of the functions that follow players through brackets.
-/
import Derived.Laws.ShiftsVar
import Derived.Deep.RegionHeld3
import Derived.Test.YtbaljgdepicigaaDoorBase
import Derived.Test.YtbaljgdepicigaaDoorMgA
import Derived.Test.YtbaljgdepicigaaDoorLib
import Derived.Test.YtbaljgdepicigaaDoorAid
import Derived.Test.YtbaljgdepicigaaDoorGrid
import Derived.Test.YtbaljgdepicigaaDoorLibF
import Derived.Test.YtbaljgdepicigaaDoorMathV
import Derived.Test.YtbaljgdepicigaaDoorSeed
import Derived.Test.YtbaljgdepicigaaDoorTour
import Derived.Test.YtbaljgdepicigaaDoorTourB
import Derived.Test.YtbaljgdepicigaaDoorBrack
import Derived.Test.YtbaljgdepicigaaDoorStep
import Derived.Test.YtbaljgdepicigaaDoorBrackB
namespace Go.Proofs.YtbaljgdepicigaaDoor
open Go.RowKit
set_option linter.unusedVariables false

-- words
theorem xor_nat2 (a b : Nat) (ha : a < 9223372036854775808) (hb : b < 9223372036854775808) : bits .xor .i64 (a : Int) (b : Int) = ((a ^^^ b : Nat) : Int) := by
  have hx : a ^^^ b < 2 ^ 63 := Nat.xor_lt_two_pow (by omega) (by omega)
  have h1 : (BitVec.ofInt 64 (a : Int)).toNat = a := by
    rw [BitVec.ofInt_natCast, BitVec.toNat_ofNat]; exact Nat.mod_eq_of_lt (by omega)
  have h2 : (BitVec.ofInt 64 (b : Int)).toNat = b := by
    rw [BitVec.ofInt_natCast, BitVec.toNat_ofNat]; exact Nat.mod_eq_of_lt (by omega)
  show IntKind.i64.wrap ((BitVec.ofInt 64 (a : Int) ^^^ BitVec.ofInt 64 (b : Int)).toNat : Int) = _
  rw [BitVec.toNat_xor, h1, h2, IntKind.wrap_i64]
  omega
theorem xor_mate (p : Nat) (h : p < 8) : bits BinOp.xor IntKind.i64 (p : Int) 1 = (mate p : Int) := xor_nat2 p 1 (by omega) (by omega)
theorem idx_spot {br : List Int} {a : Int} (h : a ∈ br) : idx br a = (spot br a : Int) := by unfold spot; have := idx_ge.2 h; omega
theorem idx_none {br : List Int} {a : Int} (h : ¬ a ∈ br) : ∃ m, idx br a = m ∧ m < 0 := ⟨-1, idx_miss h, by omega⟩
theorem mate_lt_n {s : Int} {br : List Int} (h : brk s br) (h1 : 1 < br.length) {i : Nat} (hi : i < br.length) : mate i < br.length ∧ i < 8 := ⟨mate_in h h1 hi, by have := brk_len h; omega⟩
-- impl.MeetingRound
theorem iMeeting_any (s : Int) (A : Option Addr) (n c : Nat) (xs : List Int) (A2 : Option Addr) (n2 c2 : Nat) (br : List Int) (a b : Int) (w : World) (h : Ints w A n c xs) (h2 : Ints w A2 n2 c2 br) :
    Calls Tryd.prog 25 #[.agg #[.int .i64 s, .slice A n c], .slice A2 n2 c2, .int .i64 a, .int .i64 b] w fun e w' => e = .returned (.int .i64 (meeting s xs br a b)) ∧ Ext w w' := by
  have H_h := hide h
  have H_h2 := hide h2
  have HL2 := hide h2.len
  have HE0 := hide (Ext.one w (.cells #[.int .i64 s, .slice A n c] 26))
  have b0_0 : (w.alloc (.cells #[.int .i64 s, .slice A n c] 26)).cell? ⟨w.heap.size, 0, none⟩ = some (.int .i64 s) := by simp
  have b1_0 : (w.alloc (.cells #[.int .i64 s, .slice A n c] 26)).cell? ⟨w.heap.size, 1, none⟩ = some (.slice A n c) := by simp
  clear h h2
  by_cases hp1 : bracketOk s xs br
  · skip
    have HP1 := hide hp1
    have hs8 : 0 ≤ s ∧ s ≤ 100 := by have := hp1.1.1; omega
    by_cases hp2 : 0 ≤ a ∧ a ≤ s - 1
    · skip
      have HP2 := hide hp2
      by_cases hp3 : 0 ≤ b ∧ b ≤ s - 1
      · skip
        have HP3 := hide hp3
        by_cases hp4 : ¬ a = b
        · skip
          have HP4 := hide hp4
          have hab : (a == b) = false := by simpa using hp4
          have HF := hide (show (meeting s xs br a b) = mtg xs a b 1 br from (meeting_yes hp1 hp2.1 hp3.1))
          clear hp1 hp2 hp3 hp4
          go_enter Tryd.func25, Tryd.ntmps25
          go_wp2_with (first | (go_at_call 12; refine (iBracketOk_any _ _ _ _ xs _ _ _ br _ (H_h.out.ext HE0.out) (H_h2.out.ext HE0.out)).mono ?_; rw [decide_eq_true HP1.out]; rintro e w1 ⟨rfl, hE1⟩; have b0_1 := hE1.get b0_0; have b1_1 := hE1.get b1_0) | (go_at_call 47; refine (has_any _ _ _ _ _ _ hs8).mono ?_; rw [decide_eq_true HP2.out]; rintro e w2 ⟨rfl, hE2⟩; have b0_2 := hE2.get b0_1; have b1_2 := hE2.get b1_1) | (go_at_call 47; refine (has_any _ _ _ _ _ _ hs8).mono ?_; rw [decide_eq_true HP3.out]; rintro e w3 ⟨rfl, hE3⟩; have b0_3 := hE3.get b0_2; have b1_3 := hE3.get b1_2))
          have HE := hide (((HE0.out.trans hE1).trans hE2).trans hE3)
          have HW2 := hide (H_h2.out.ext (((HE0.out.trans hE1).trans hE2).trans hE3))
          have B0 := hide b0_3; have B1 := hide b1_3
          have HTB := hide HP1.out
          clear b0_0 b1_0 b0_1 b1_1 b0_2 b1_2 b0_3 b1_3 hE1 hE2 hE3
          clear hab
          go_loopw [1, 9] (fun v i wr => ∃ (A' : Option Addr) (n' c' : Nat) (br' : List Int) (r : Nat), v = .slice A' n' c' ∧ i = .int .i64 (r : Int) ∧ Hid (Ints wr A' n' c' br' ∧ brk s br' ∧ mtg xs a b r br' = mtg xs a b 1 br) ∧ r + n' ≤ 9 ∧ Ext w3 wr) (fun v _ _ => slLen v)
          case atStart => exact ⟨_, _, _, br, 1, rfl, rfl, hide ⟨HW2.out, HP1.out.2, rfl⟩, by have := brk_len HP1.out.2; have := HL2.out; omega, Ext.refl _⟩
          case round =>
            obtain ⟨A', n', c', br', r, rfl, rfl, HR, hr, hE⟩ := hrel
            have e0 := hE.get B0.out
            have e1 := hE.get B1.out
            have HER := hide hE
            have hle := HR.out.1.le
            have hmx := HR.out.1.max
            have HL := hide HR.out.1.len
            have hk := brk_len HR.out.2.1
            rw [HL.out] at hk
            clear hE
            by_cases hlt : 1 < n'
            · have h1 : 1 < br'.length := by rw [HL.out]; exact hlt
              have H1 := hide h1
              clear h1
              by_cases hma : a ∈ br'
              · have HMA := hide hma
                have HIA := hide (idx_spot hma)
                have hpl := spot_lt hma
                rw [HL.out] at hpl
                have HSA : Hid (spot br' a = spot br' a) := hide rfl
                by_cases hmb : b ∈ br'
                · have HMB := hide hmb
                  have HIB := hide (idx_spot hmb)
                  have hql := spot_lt hmb
                  rw [HL.out] at hql
                  clear hma hmb
                  have HXA := hide (xor_mate (spot br' a) (by omega))
                  have HEQ := hide (show mate (spot br' a) = spot br' b → mtg xs a b r br' = r from fun e => mtg_now H1.out HMA.out HMB.out e)
                  have HNE := hide (show ¬ mate (spot br' a) = spot br' b → mtg xs a b r br' = mtg xs a b (r + 1) (nextR xs br') from fun e => mtg_go H1.out HMA.out HMB.out e)
                  generalize spot br' a = p at *
                  generalize spot br' b = q at *
                  by_cases hm : mate p = q
                  · have hq : (bits BinOp.xor IntKind.i64 (p : Int) 1 == (q : Int)) = true := by rw [HXA.out, hm]; simp
                    have HV := hide (HEQ.out hm)
                    clear hm
                    go_wp2_with (first | (go_at_call 67; refine (Index_any _ _ _ br' _ _ HR.out.1).mono ?_; (first | rw [HIA.out] | rw [HIB.out]); rintro e w' ⟨rfl, rfl⟩) | fail)
                    go_ret
                    exact ⟨ret_int (by rw [HF.out, ← HR.out.2.2, HV.out]), HE.out.trans HER.out⟩
                  · have hq : (bits BinOp.xor IntKind.i64 (p : Int) 1 == (q : Int)) = false := by rw [HXA.out]; simp; omega
                    have HS := hide (HNE.out hm)
                    clear hm
                    have HN := hide (nextR_len xs br')
                    go_wp2_with (first | (go_at_call 67; refine (Index_any _ _ _ br' _ _ HR.out.1).mono ?_; (first | rw [HIA.out] | rw [HIB.out]); rintro e w' ⟨rfl, rfl⟩) | (go_at_call 66; refine (iNext_any _ _ _ _ xs _ _ _ br' _ (H_h.out.ext (HE.out.trans HER.out)) HR.out.1 HP1.out.1 HR.out.2.1 H1.out).mono ?_; rintro e w9 ⟨B, d, rfl, ho9, hE9⟩))
                    go_roundw
                    case rel => exact ⟨B, (nextR xs br').length, d, nextR xs br', r + 1, rfl, by go_num, hide ⟨ho9.ints, brk_next xs HR.out.2.1 H1.out, by rw [← HS.out]; exact HR.out.2.2⟩, by have := HN.out; have := HL.out; omega, HER.out.trans hE9⟩
                    case measure => (simp [slLen]; have := HN.out; have := HL.out; omega)
                · obtain ⟨mb, hib, hmb0⟩ := idx_none hmb; have HIB := hide hib; clear hib
                  have HV := hide (mtg_out xs a b r br' (fun hh => hmb hh.2))
                  clear hma hmb
                  generalize spot br' a = p at *
                  go_wp2_with (first | (go_at_call 67; refine (Index_any _ _ _ br' _ _ HR.out.1).mono ?_; (first | rw [HIA.out] | rw [HIB.out]); rintro e w' ⟨rfl, rfl⟩) | fail)
                  go_ret
                  exact ⟨ret_int (by rw [HF.out, ← HR.out.2.2, HV.out]; rfl), HE.out.trans HER.out⟩
              · obtain ⟨ma, hia, hma0⟩ := idx_none hma; have HIA := hide hia; clear hia
                have HV := hide (mtg_out xs a b r br' (fun hh => hma hh.1))
                by_cases hmb : b ∈ br'
                · have HIB := hide (idx_spot hmb)
                  clear hma hmb
                  generalize spot br' b = q at *
                  go_wp2_with (first | (go_at_call 67; refine (Index_any _ _ _ br' _ _ HR.out.1).mono ?_; (first | rw [HIA.out] | rw [HIB.out]); rintro e w' ⟨rfl, rfl⟩) | fail)
                  go_ret
                  exact ⟨ret_int (by rw [HF.out, ← HR.out.2.2, HV.out]; rfl), HE.out.trans HER.out⟩
                · obtain ⟨mb, hib, hmb0⟩ := idx_none hmb; have HIB := hide hib; clear hib
                  clear hma hmb
                  go_wp2_with (first | (go_at_call 67; refine (Index_any _ _ _ br' _ _ HR.out.1).mono ?_; (first | rw [HIA.out] | rw [HIB.out]); rintro e w' ⟨rfl, rfl⟩) | fail)
                  go_ret
                  exact ⟨ret_int (by rw [HF.out, ← HR.out.2.2, HV.out]; rfl), HE.out.trans HER.out⟩
            · have HV := hide (mtg_end (xs := xs) (a := a) (b := b) (r := r) (br := br') (by have := HL.out; omega))
              go_wp2
              go_ret
              exact ⟨ret_int (by rw [HF.out, ← HR.out.2.2, HV.out]; rfl), HE.out.trans HER.out⟩
        · have HP4 := hide hp4
          have HF := hide (show (meeting s xs br a b) = 0 from by (exact meeting_no (.inr (.inr (.inr (Decidable.not_not.1 HP4.out))))))
          have hab : (a == b) = true := by simpa using hp4
          clear hp1 hp2 hp3 hp4
          go_enter Tryd.func25, Tryd.ntmps25
          go_wp2_with (first | (go_at_call 12; refine (iBracketOk_any _ _ _ _ xs _ _ _ br _ (H_h.out.ext HE0.out) (H_h2.out.ext HE0.out)).mono ?_; rw [decide_eq_true HP1.out]; rintro e w1 ⟨rfl, hE1⟩; have b0_1 := hE1.get b0_0; have b1_1 := hE1.get b1_0) | (go_at_call 47; refine (has_any _ _ _ _ _ _ hs8).mono ?_; rw [decide_eq_true HP2.out]; rintro e w2 ⟨rfl, hE2⟩; have b0_2 := hE2.get b0_1; have b1_2 := hE2.get b1_1) | (go_at_call 47; refine (has_any _ _ _ _ _ _ hs8).mono ?_; rw [decide_eq_true HP3.out]; rintro e w3 ⟨rfl, hE3⟩; have b0_3 := hE3.get b0_2; have b1_3 := hE3.get b1_2))
          go_ret
          exact ⟨ret_int HF.out.symm, (((HE0.out.trans hE1).trans hE2).trans hE3)⟩
      · have HP3 := hide hp3
        have HF := hide (show (meeting s xs br a b) = 0 from by (exact meeting_no (.inr (.inr (.inl HP3.out)))))
        clear hp1 hp2 hp3
        go_enter Tryd.func25, Tryd.ntmps25
        go_wp2_with (first | (go_at_call 12; refine (iBracketOk_any _ _ _ _ xs _ _ _ br _ (H_h.out.ext HE0.out) (H_h2.out.ext HE0.out)).mono ?_; rw [decide_eq_true HP1.out]; rintro e w1 ⟨rfl, hE1⟩; have b0_1 := hE1.get b0_0; have b1_1 := hE1.get b1_0) | (go_at_call 47; refine (has_any _ _ _ _ _ _ hs8).mono ?_; rw [decide_eq_true HP2.out]; rintro e w2 ⟨rfl, hE2⟩; have b0_2 := hE2.get b0_1; have b1_2 := hE2.get b1_1) | (go_at_call 47; refine (has_any _ _ _ _ _ _ hs8).mono ?_; rw [decide_eq_false HP3.out]; rintro e w3 ⟨rfl, hE3⟩; have b0_3 := hE3.get b0_2; have b1_3 := hE3.get b1_2))
        go_ret
        exact ⟨ret_int HF.out.symm, (((HE0.out.trans hE1).trans hE2).trans hE3)⟩
    · have HP2 := hide hp2
      have HF := hide (show (meeting s xs br a b) = 0 from by (exact meeting_no (.inr (.inl HP2.out))))
      clear hp1 hp2
      go_enter Tryd.func25, Tryd.ntmps25
      go_wp2_with (first | (go_at_call 12; refine (iBracketOk_any _ _ _ _ xs _ _ _ br _ (H_h.out.ext HE0.out) (H_h2.out.ext HE0.out)).mono ?_; rw [decide_eq_true HP1.out]; rintro e w1 ⟨rfl, hE1⟩; have b0_1 := hE1.get b0_0; have b1_1 := hE1.get b1_0) | (go_at_call 47; refine (has_any _ _ _ _ _ _ hs8).mono ?_; rw [decide_eq_false HP2.out]; rintro e w2 ⟨rfl, hE2⟩; have b0_2 := hE2.get b0_1; have b1_2 := hE2.get b1_1))
      go_ret
      exact ⟨ret_int HF.out.symm, ((HE0.out.trans hE1).trans hE2)⟩
  · have HP1 := hide hp1
    have HF := hide (show (meeting s xs br a b) = 0 from by (exact meeting_no (.inl HP1.out)))
    clear hp1
    go_enter Tryd.func25, Tryd.ntmps25
    go_wp2_with (first | (go_at_call 12; refine (iBracketOk_any _ _ _ _ xs _ _ _ br _ (H_h.out.ext HE0.out) (H_h2.out.ext HE0.out)).mono ?_; rw [decide_eq_false HP1.out]; rintro e w1 ⟨rfl, hE1⟩; have b0_1 := hE1.get b0_0; have b1_1 := hE1.get b1_0))
    go_ret
    exact ⟨ret_int HF.out.symm, (HE0.out.trans hE1)⟩

end Go.Proofs.YtbaljgdepicigaaDoor
