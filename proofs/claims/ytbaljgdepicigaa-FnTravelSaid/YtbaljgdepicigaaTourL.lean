/-
  The law on the least tour.
-/
import Derived.Laws.ShiftsVar
import Derived.Deep.RegionHeld3
import Derived.Carry
import Derived.Test.YtbaljgdepicigaaBase
import Derived.Test.YtbaljgdepicigaaMathA
import Derived.Test.YtbaljgdepicigaaMathD
import Derived.Test.YtbaljgdepicigaaLib
import Derived.Test.YtbaljgdepicigaaAid
import Derived.Test.YtbaljgdepicigaaStep
import Derived.Test.YtbaljgdepicigaaGrid
import Derived.Test.YtbaljgdepicigaaMathG
import Derived.Test.YtbaljgdepicigaaMathT
import Derived.Test.YtbaljgdepicigaaMathM
import Derived.Test.YtbaljgdepicigaaTen
import Derived.Test.YtbaljgdepicigaaDist
import Derived.Test.YtbaljgdepicigaaTourM
import Derived.Test.YtbaljgdepicigaaTourN
namespace Go.Proofs.Ytbaljgdepicigaa
open Go.RowKit
set_option linter.unusedVariables false

-- words of the least tour
theorem set_bits {N set : Nat} (h : set < 2 ^ N) : ∀ q, set.testBit q = true → q < N := fun q hq => by
  rcases Nat.lt_or_ge q N with h1 | h1
  · exact h1
  · rw [Nat.testBit_lt_two_pow (Nat.lt_of_lt_of_le h (Nat.pow_le_pow_right (by omega) h1))] at hq; cases hq
theorem ten_pow {N : Nat} (h : N ≤ 10) : (2 : Nat) ^ N ≤ 1024 := Nat.pow_le_pow_right (n := 2) (j := 10) (by omega) h
theorem wrap_ten {n : Nat} (h : n ≤ 10) : wrap64 (wrap64 (2 ^ n) - 1) = ((2 ^ n : Nat) : Int) - 1 := by
  have h1 := shl_ten n h
  have h0 := Nat.two_pow_pos n
  have key : ∀ z : Nat, 0 < z → z ≤ 1024 → wrap64 ((z : Int) - 1) = (z : Int) - 1 := by intro z h1 h2; unfold wrap64; omega
  rw [h1.1]
  exact key _ h0 h1.2
theorem shr_bound10 (S : Nat) (h : S < 1024) (K : Nat) : 0 ≤ (S : Int) / 2 ^ K ∧ (S : Int) / 2 ^ K ≤ 1024 := by
  rw [shr_castT]
  have h2 : S / 2 ^ K ≤ S := Nat.div_le_self _ _
  generalize S / 2 ^ K = q at *
  omega
-- calls of the program
def CallsTi (rows : List (List Int)) (n : Nat) (A : Option Addr) (c K S : Nat) (w : World) : Prop :=
  Calls Try.prog 129 #[.slice A n c, .int .i64 (K : Int), .int .i64 (K : Int), .int .i64 (S : Int), .map (some w.heap.size)] (w.alloc (.map #[] 0)) fun e w' => e = .returned (.int .i64 (tour rows K K S)) ∧ Ext w w'
theorem callsTi (rows : List (List Int)) (n : Nat) (A : Option Addr) (c K S : Nat) (w : World) (hd : distOk (n : Int) rows) (h : Grid w A n c rows) (hK : K < n) (hS : S < 1024) (hb : ∀ q, S.testBit q = true → q < n) (hn : n ≤ 10) : CallsTi rows n A c K S w :=
  (leastT_any (pcT S) n A n c rows K K S w.heap.size w (w.alloc (.map #[] 0)) hd h hK hK hS hb hn rfl (Ext.one _ _) (Nat.le_refl _) (Memo.made rows K w)).mono fun _ _ ⟨h1, _, h3⟩ => ⟨h1, (Ext.one w _).grown h3 (fun q e => by cases e; exact Nat.le_refl _)⟩
-- LeastTour both impl.LeastTour
theorem iLeast_any (m : Int) (A : Option Addr) (n c : Nat) (rows : List (List Int)) (k set : Int) (w : World) (hm : I64 m) (h : Grid w A n c rows) :
    Calls Try.prog 60 #[.int .i64 m, .slice A n c, .int .i64 k, .int .i64 set] w fun e w' => e = .returned (.int .i64 (leastTour m rows k set)) ∧ Ext w w' := by
  have HI := hide h
  have HL := hide h.len
  have COK := hide (show Calls Try.prog 54 #[.int .i64 m, .slice A n c] w fun e w' => e = .returned (.bool (decide (distOk m rows))) ∧ Ext w w' from by first | exact iDistOk_any m A n c rows w hm h | exact (iDistOk_any m A n c rows w hm h).mono fun _ _ ⟨h1, h2⟩ => ⟨h1, by subst h2; exact Ext.refl _⟩)
  clear h
  by_cases hd : distOk m rows
  · have HD := hide hd
    have hnm : (n : Int) = m ∧ n ≤ 10 ∧ 2 ≤ n := by have h1 := hd.1.1; have h2 := hd.2.1; have h3 := HL.out; omega
    obtain ⟨hnm, hn10, hn2⟩ := hnm
    subst hnm
    by_cases hk : 0 ≤ k ∧ k ≤ (n : Int) - 1
    · have HK := hide hk
      clear hd
      go_enter Try.func60, Try.ntmps60
      go_wp2_with fail
      refine COK.out.mono ?_
      rw [decide_eq_true HD.out]
      rintro e w1 ⟨rfl, hE1⟩
      go_wp2_with fail
      refine (within_any _ _ _ _).mono ?_
      rw [decide_eq_true HK.out]
      rintro e w' ⟨rfl, rfl⟩
      go_wp2_with fail
      rw [wrap_ten hn10]
      have HB := hide (ten_pow hn10)
      generalize wrap64 (2 ^ n) = Z0 at *
      by_cases hs : 0 ≤ set ∧ set ≤ ((2 ^ n : Nat) : Int) - 1
      · have HS := hide hs
        obtain ⟨S, rfl⟩ : ∃ S : Nat, set = (S : Int) := ⟨set.toNat, by omega⟩
        obtain ⟨K, rfl⟩ : ∃ K : Nat, k = (K : Int) := ⟨k.toNat, by omega⟩
        have hS : S < 2 ^ n := by omega
        have HSN := hide hS
        have hS10 : S < 1024 := by have := HB.out; omega
        have hKn : K < n := by omega
        have HBB := hide (show (bits BinOp.and IntKind.i64 ((S : Int) / 2 ^ K) 1 == 1) = S.testBit K by rw [shr_castT]; exact bit_low10 S hS10 K)
        have HDV := hide (show ((S : Int) / 2 ^ K % 2 ≠ 1) ↔ S.testBit K = false by rw [shr_castT, Nat.testBit_eq_decide_div_mod_eq, decide_eq_false_iff_not]; omega)
        have hsh := shr_bound10 S hS10 K
        refine (within_any _ _ _ _).mono ?_
        rw [decide_eq_true HS.out]
        rintro e w' ⟨rfl, rfl⟩
        clear hs hS hk
        by_cases hb : S.testBit K = true
        · have hbb : (bits BinOp.and IntKind.i64 ((S : Int) / 2 ^ K) 1 == 1) = true := by rw [HBB.out]; exact hb
          have HV := hide (show leastTour (n : Int) rows (K : Int) (S : Int) = -1 from if_neg fun hh => by
            have h9 := hh.2.2.2
            rw [Int.toNat_natCast] at h9
            have := HDV.out.1 h9
            rw [this] at hb
            cases hb)
          clear hb
          go_wp2
          go_ret
          exact ⟨ret_int HV.out.symm, hE1⟩
        · have hbf : S.testBit K = false := by simpa using hb
          have hbb : (bits BinOp.and IntKind.i64 ((S : Int) / 2 ^ K) 1 == 1) = false := by rw [HBB.out]; exact hbf
          have HV := hide (show leastTour (n : Int) rows (K : Int) (S : Int) = tour rows K K S from by
            unfold leastTour
            rw [if_pos ⟨HD.out, HK.out, by simpa using HS.out, by rw [Int.toNat_natCast]; exact HDV.out.2 hbf⟩]
            simp)
          have HE1 := hide hE1
          clear hb hbf hE1
          have CT := hide (show ∀ w' : World, Ext w w' → CallsTi rows n A c K S w' from fun w' hE' => callsTi rows n A c K S w' HD.out (HI.out.ext hE') hKn hS10 (set_bits HSN.out) hn10)
          have hmk : ∀ w : World, (Instr.makeMap 112 none).run Try.prog w = .ok (.map (some w.heap.size)) (w.alloc (.map #[] 0)) := fun w => run_makeMap _ w
          go_wp2_with (go_at_call 129; refine Calls.mono (CT.out _ HE1.out) ?_; rintro e w3 ⟨rfl, hE2⟩);go_ret
          exact ⟨ret_int HV.out.symm, HE1.out.trans hE2⟩
      · have HS := hide hs
        have HV := hide (show leastTour (n : Int) rows k set = -1 from if_neg fun hh => hs (by have := hh.2.2.1; simpa using this))
        clear hs
        refine (within_any _ _ _ _).mono ?_
        rw [decide_eq_false HS.out]
        rintro e w' ⟨rfl, rfl⟩
        go_wp2
        go_ret
        exact ⟨ret_int HV.out.symm, hE1⟩
    · have HK := hide hk
      have HV := hide (show leastTour (n : Int) rows k set = -1 from if_neg fun hh => hk hh.2.1)
      clear hd hk
      go_enter Try.func60, Try.ntmps60
      go_wp2_with fail
      refine COK.out.mono ?_
      rw [decide_eq_true HD.out]
      rintro e w1 ⟨rfl, hE1⟩
      go_wp2_with fail
      refine (within_any _ _ _ _).mono ?_
      rw [decide_eq_false HK.out]
      rintro e w' ⟨rfl, rfl⟩
      go_wp2
      go_ret
      exact ⟨ret_int HV.out.symm, hE1⟩
  · have HD := hide hd
    have HV := hide (show leastTour m rows k set = -1 from if_neg fun hh => hd hh.1)
    clear hd
    go_enter Try.func60, Try.ntmps60
    go_wp2_with fail
    refine COK.out.mono ?_
    rw [decide_eq_false HD.out]
    rintro e w1 ⟨rfl, hE1⟩
    go_wp2
    go_ret
    exact ⟨ret_int HV.out.symm, hE1⟩

end Go.Proofs.Ytbaljgdepicigaa
