/-
  The law on the least tour.
-/
import Derived.Laws.ShiftsVar
import Derived.Deep.RegionHeld3
import Derived.Carry
import Derived.Test.YtafhcnnbiheofaaBase
import Derived.Test.YtafhcnnbiheofaaMathA
import Derived.Test.YtafhcnnbiheofaaMathD
import Derived.Test.YtafhcnnbiheofaaLib
import Derived.Test.YtafhcnnbiheofaaAid
import Derived.Test.YtafhcnnbiheofaaStep
import Derived.Test.YtafhcnnbiheofaaGrid
import Derived.Test.YtafhcnnbiheofaaMathG
import Derived.Test.YtafhcnnbiheofaaMathT
import Derived.Test.YtafhcnnbiheofaaMathM
import Derived.Test.YtafhcnnbiheofaaTen
import Derived.Test.YtafhcnnbiheofaaDist
import Derived.Test.YtafhcnnbiheofaaTourM
import Derived.Test.YtafhcnnbiheofaaTourN
namespace Go.Proofs.Ytafhcnnbiheofaa
open Go.RowKit
set_option linter.unusedVariables false

-- words of the least tour
theorem set_bits {N set : Nat} (h : set < 2 ^ N) : ∀ q, set.testBit q = true → q < N := fun q hq => by
  rcases Nat.lt_or_ge q N with h1 | h1
  · exact h1
  · rw [Nat.testBit_lt_two_pow (Nat.lt_of_lt_of_le h (Nat.pow_le_pow_right (by omega) h1))] at hq; cases hq
theorem ten_pow {N : Nat} (h : N ≤ 10) : (2 : Nat) ^ N ≤ 1024 := Nat.pow_le_pow_right (n := 2) (j := 10) (by omega) h
theorem wrap_ten {n : Nat} (h : n ≤ 10) : wrap64 (wrap64 (2 ^ n) - 1) = ((2 ^ n : Nat) : Int) - 1 := by
  have h1 := shl_ten n h
  have h0 := Nat.two_pow_pos n
  have key : ∀ z : Nat, 0 < z → z ≤ 1024 → wrap64 ((z : Int) - 1) = (z : Int) - 1 := by intro z h1 h2; unfold wrap64; omega
  rw [h1.1]
  exact key _ h0 h1.2
theorem shr_bound10 (S : Nat) (h : S < 1024) (K : Nat) : 0 ≤ (S : Int) / 2 ^ K ∧ (S : Int) / 2 ^ K ≤ 1024 := by
  rw [shr_castT]
  have h2 : S / 2 ^ K ≤ S := Nat.div_le_self _ _
  generalize S / 2 ^ K = q at *
  omega
-- calls of both
def CallsTi (rows : List (List Int)) (n : Nat) (A : Option Addr) (c K S : Nat) (w : World) : Prop :=
  Calls Try.prog 71 #[.slice A n c, .int .i64 (K : Int), .int .i64 (K : Int), .int .i64 (S : Int), .map (some w.heap.size)] (w.alloc (.map #[] 0)) fun e w' => e = .returned (.int .i64 (tour rows K K S)) ∧ Ext w w'
theorem callsTi (rows : List (List Int)) (n : Nat) (A : Option Addr) (c K S : Nat) (w : World) (hd : distOk (n : Int) rows) (h : Grid w A n c rows) (hK : K < n) (hS : S < 1024) (hb : ∀ q, S.testBit q = true → q < n) (hn : n ≤ 10) : CallsTi rows n A c K S w :=
  (leastT_any (pcT S) n A n c rows K K S w.heap.size w (w.alloc (.map #[] 0)) hd h hK hK hS hb hn rfl (Ext.one _ _) (Nat.le_refl _) (Memo.made rows K w)).mono fun _ _ ⟨h1, _, h3⟩ => ⟨h1, (Ext.one w _).grown h3 (fun q e => by cases e; exact Nat.le_refl _)⟩
def CallsTs (rows : List (List Int)) (n : Nat) (A : Option Addr) (c K S : Nat) (w : World) : Prop :=
  Calls Try.prog 68 #[.slice A n c, .int .i64 (K : Int), .int .i64 (K : Int), .int .i64 (S : Int)] w fun e w' => e = .returned (.int .i64 (tour rows K K S)) ∧ Ext w w'
theorem callsTs (rows : List (List Int)) (n : Nat) (A : Option Addr) (c K S : Nat) (w : World) (hd : distOk (n : Int) rows) (h : Grid w A n c rows) (hK : K < n) (hS : S < 1024) (hb : ∀ q, S.testBit q = true → q < n) (hn : n ≤ 10) : CallsTs rows n A c K S w :=
  l19_any (pcT S) n A n c rows K K S w hd h hK hK hS hb rfl
-- LeastTour both impl.LeastTour
theorem iLeast_any (m : Int) (A : Option Addr) (n c : Nat) (rows : List (List Int)) (k set : Int) (w : World) (hm : I64 m) (h : Grid w A n c rows) :
    Calls Try.prog 30 #[.int .i64 m, .slice A n c, .int .i64 k, .int .i64 set] w fun e w' => e = .returned (.int .i64 (leastTour m rows k set)) ∧ Ext w w' := by
  have HI := hide h
  have HL := hide h.len
  have COK := hide (show Calls Try.prog 69 #[.int .i64 m, .slice A n c] w fun e w' => e = .returned (.bool (decide (distOk m rows))) ∧ Ext w w' from by first | exact iDistOk_any m A n c rows w hm h | exact (iDistOk_any m A n c rows w hm h).mono fun _ _ ⟨h1, h2⟩ => ⟨h1, by subst h2; exact Ext.refl _⟩)
  clear h
  by_cases hd : distOk m rows
  · have HD := hide hd
    have hnm : (n : Int) = m ∧ n ≤ 10 ∧ 2 ≤ n := by have h1 := hd.1.1; have h2 := hd.2.1; have h3 := HL.out; omega
    obtain ⟨hnm, hn10, hn2⟩ := hnm
    subst hnm
    by_cases hk : 0 ≤ k ∧ k ≤ (n : Int) - 1
    · have HK := hide hk
      clear hd
      go_enter Try.func30, Try.ntmps30
      go_wp2_with fail
      refine COK.out.mono ?_
      rw [decide_eq_true HD.out]
      rintro e w1 ⟨rfl, hE1⟩
      go_wp2_with fail
      refine (within_any _ _ _ _).mono ?_
      rw [decide_eq_true HK.out]
      rintro e w' ⟨rfl, rfl⟩
      go_wp2_with fail
      rw [wrap_ten hn10]
      have HB := hide (ten_pow hn10)
      generalize wrap64 (2 ^ n) = Z0 at *
      by_cases hs : 0 ≤ set ∧ set ≤ ((2 ^ n : Nat) : Int) - 1
      · have HS := hide hs
        obtain ⟨S, rfl⟩ : ∃ S : Nat, set = (S : Int) := ⟨set.toNat, by omega⟩
        obtain ⟨K, rfl⟩ : ∃ K : Nat, k = (K : Int) := ⟨k.toNat, by omega⟩
        have hS : S < 2 ^ n := by omega
        have HSN := hide hS
        have hS10 : S < 1024 := by have := HB.out; omega
        have hKn : K < n := by omega
        have HBB := hide (show (bits BinOp.and IntKind.i64 ((S : Int) / 2 ^ K) 1 == 1) = S.testBit K by rw [shr_castT]; exact bit_low10 S hS10 K)
        have HDV := hide (show ((S : Int) / 2 ^ K % 2 ≠ 1) ↔ S.testBit K = false by rw [shr_castT, Nat.testBit_eq_decide_div_mod_eq, decide_eq_false_iff_not]; omega)
        have hsh := shr_bound10 S hS10 K
        refine (within_any _ _ _ _).mono ?_
        rw [decide_eq_true HS.out]
        rintro e w' ⟨rfl, rfl⟩
        clear hs hS hk
        by_cases hb : S.testBit K = true
        · have hbb : (bits BinOp.and IntKind.i64 ((S : Int) / 2 ^ K) 1 == 1) = true := by rw [HBB.out]; exact hb
          have HV := hide (show leastTour (n : Int) rows (K : Int) (S : Int) = -1 from if_neg fun hh => by
            have h9 := hh.2.2.2
            rw [Int.toNat_natCast] at h9
            have := HDV.out.1 h9
            rw [this] at hb
            cases hb)
          clear hb
          go_wp2
          go_ret
          exact ⟨ret_int HV.out.symm, hE1⟩
        · have hbf : S.testBit K = false := by simpa using hb
          have hbb : (bits BinOp.and IntKind.i64 ((S : Int) / 2 ^ K) 1 == 1) = false := by rw [HBB.out]; exact hbf
          have HV := hide (show leastTour (n : Int) rows (K : Int) (S : Int) = tour rows K K S from by
            unfold leastTour
            rw [if_pos ⟨HD.out, HK.out, by simpa using HS.out, by rw [Int.toNat_natCast]; exact HDV.out.2 hbf⟩]
            simp)
          have HE1 := hide hE1
          clear hb hbf hE1
          have CT := hide (show ∀ w' : World, Ext w w' → CallsTi rows n A c K S w' from fun w' hE' => callsTi rows n A c K S w' HD.out (HI.out.ext hE') hKn hS10 (set_bits HSN.out) hn10)
          have hmk : ∀ w : World, (Instr.makeMap 59 none).run Try.prog w = .ok (.map (some w.heap.size)) (w.alloc (.map #[] 0)) := fun w => run_makeMap _ w
          go_wp2_with (go_at_call 71; refine Calls.mono (CT.out _ HE1.out) ?_; rintro e w3 ⟨rfl, hE2⟩);go_ret
          exact ⟨ret_int HV.out.symm, HE1.out.trans hE2⟩
      · have HS := hide hs
        have HV := hide (show leastTour (n : Int) rows k set = -1 from if_neg fun hh => hs (by have := hh.2.2.1; simpa using this))
        clear hs
        refine (within_any _ _ _ _).mono ?_
        rw [decide_eq_false HS.out]
        rintro e w' ⟨rfl, rfl⟩
        go_wp2
        go_ret
        exact ⟨ret_int HV.out.symm, hE1⟩
    · have HK := hide hk
      have HV := hide (show leastTour (n : Int) rows k set = -1 from if_neg fun hh => hk hh.2.1)
      clear hd hk
      go_enter Try.func30, Try.ntmps30
      go_wp2_with fail
      refine COK.out.mono ?_
      rw [decide_eq_true HD.out]
      rintro e w1 ⟨rfl, hE1⟩
      go_wp2_with fail
      refine (within_any _ _ _ _).mono ?_
      rw [decide_eq_false HK.out]
      rintro e w' ⟨rfl, rfl⟩
      go_wp2
      go_ret
      exact ⟨ret_int HV.out.symm, hE1⟩
  · have HD := hide hd
    have HV := hide (show leastTour m rows k set = -1 from if_neg fun hh => hd hh.1)
    clear hd
    go_enter Try.func30, Try.ntmps30
    go_wp2_with fail
    refine COK.out.mono ?_
    rw [decide_eq_false HD.out]
    rintro e w1 ⟨rfl, hE1⟩
    go_wp2
    go_ret
    exact ⟨ret_int HV.out.symm, hE1⟩
-- LeastTour both spec.LeastTour
theorem sLeast_any (m : Int) (A : Option Addr) (n c : Nat) (rows : List (List Int)) (k set : Int) (w : World) (hm : I64 m) (h : Grid w A n c rows) :
    Calls Try.prog 29 #[.int .i64 m, .slice A n c, .int .i64 k, .int .i64 set] w fun e w' => e = .returned (.int .i64 (leastTour m rows k set)) ∧ Ext w w' := by
  have HI := hide h
  have HL := hide h.len
  have COK := hide (show Calls Try.prog 66 #[.int .i64 m, .slice A n c] w fun e w' => e = .returned (.bool (decide (distOk m rows))) ∧ Ext w w' from by first | exact sDistOk_any m A n c rows w hm h | exact (sDistOk_any m A n c rows w hm h).mono fun _ _ ⟨h1, h2⟩ => ⟨h1, by subst h2; exact Ext.refl _⟩)
  clear h
  by_cases hd : distOk m rows
  · have HD := hide hd
    have hnm : (n : Int) = m ∧ n ≤ 10 ∧ 2 ≤ n := by have h1 := hd.1.1; have h2 := hd.2.1; have h3 := HL.out; omega
    obtain ⟨hnm, hn10, hn2⟩ := hnm
    subst hnm
    by_cases hk : 0 ≤ k ∧ k ≤ (n : Int) - 1
    · have HK := hide hk
      clear hd
      go_enter Try.func29, Try.ntmps29
      go_wp2_with fail
      refine COK.out.mono ?_
      rw [decide_eq_true HD.out]
      rintro e w1 ⟨rfl, hE1⟩
      go_wp2_with fail
      refine (l01In_any _ _ _ _).mono ?_
      rw [decide_eq_true HK.out]
      rintro e w' ⟨rfl, rfl⟩
      go_wp2_with fail
      rw [wrap_ten hn10]
      have HB := hide (ten_pow hn10)
      generalize wrap64 (2 ^ n) = Z0 at *
      by_cases hs : 0 ≤ set ∧ set ≤ ((2 ^ n : Nat) : Int) - 1
      · have HS := hide hs
        obtain ⟨S, rfl⟩ : ∃ S : Nat, set = (S : Int) := ⟨set.toNat, by omega⟩
        obtain ⟨K, rfl⟩ : ∃ K : Nat, k = (K : Int) := ⟨k.toNat, by omega⟩
        have hS : S < 2 ^ n := by omega
        have HSN := hide hS
        have hS10 : S < 1024 := by have := HB.out; omega
        have hKn : K < n := by omega
        have HBB := hide (show (bits BinOp.and IntKind.i64 ((S : Int) / 2 ^ K) 1 == 1) = S.testBit K by rw [shr_castT]; exact bit_low10 S hS10 K)
        have HDV := hide (show ((S : Int) / 2 ^ K % 2 ≠ 1) ↔ S.testBit K = false by rw [shr_castT, Nat.testBit_eq_decide_div_mod_eq, decide_eq_false_iff_not]; omega)
        have hsh := shr_bound10 S hS10 K
        refine (l01In_any _ _ _ _).mono ?_
        rw [decide_eq_true HS.out]
        rintro e w' ⟨rfl, rfl⟩
        clear hs hS hk
        by_cases hb : S.testBit K = true
        · have hbb : (bits BinOp.and IntKind.i64 ((S : Int) / 2 ^ K) 1 == 1) = true := by rw [HBB.out]; exact hb
          have HV := hide (show leastTour (n : Int) rows (K : Int) (S : Int) = -1 from if_neg fun hh => by
            have h9 := hh.2.2.2
            rw [Int.toNat_natCast] at h9
            have := HDV.out.1 h9
            rw [this] at hb
            cases hb)
          clear hb
          go_wp2
          go_ret
          exact ⟨ret_int HV.out.symm, hE1⟩
        · have hbf : S.testBit K = false := by simpa using hb
          have hbb : (bits BinOp.and IntKind.i64 ((S : Int) / 2 ^ K) 1 == 1) = false := by rw [HBB.out]; exact hbf
          have HV := hide (show leastTour (n : Int) rows (K : Int) (S : Int) = tour rows K K S from by
            unfold leastTour
            rw [if_pos ⟨HD.out, HK.out, by simpa using HS.out, by rw [Int.toNat_natCast]; exact HDV.out.2 hbf⟩]
            simp)
          have HE1 := hide hE1
          clear hb hbf hE1
          have CT := hide (show ∀ w' : World, Ext w w' → CallsTs rows n A c K S w' from fun w' hE' => callsTs rows n A c K S w' HD.out (HI.out.ext hE') hKn hS10 (set_bits HSN.out) hn10)
          have hmk : ∀ w : World, (Instr.makeMap 59 none).run Try.prog w = .ok (.map (some w.heap.size)) (w.alloc (.map #[] 0)) := fun w => run_makeMap _ w
          go_wp2_with (go_at_call 68; refine Calls.mono (CT.out _ HE1.out) ?_; rintro e w3 ⟨rfl, hE2⟩);go_ret
          exact ⟨ret_int HV.out.symm, HE1.out.trans hE2⟩
      · have HS := hide hs
        have HV := hide (show leastTour (n : Int) rows k set = -1 from if_neg fun hh => hs (by have := hh.2.2.1; simpa using this))
        clear hs
        refine (l01In_any _ _ _ _).mono ?_
        rw [decide_eq_false HS.out]
        rintro e w' ⟨rfl, rfl⟩
        go_wp2
        go_ret
        exact ⟨ret_int HV.out.symm, hE1⟩
    · have HK := hide hk
      have HV := hide (show leastTour (n : Int) rows k set = -1 from if_neg fun hh => hk hh.2.1)
      clear hd hk
      go_enter Try.func29, Try.ntmps29
      go_wp2_with fail
      refine COK.out.mono ?_
      rw [decide_eq_true HD.out]
      rintro e w1 ⟨rfl, hE1⟩
      go_wp2_with fail
      refine (l01In_any _ _ _ _).mono ?_
      rw [decide_eq_false HK.out]
      rintro e w' ⟨rfl, rfl⟩
      go_wp2
      go_ret
      exact ⟨ret_int HV.out.symm, hE1⟩
  · have HD := hide hd
    have HV := hide (show leastTour m rows k set = -1 from if_neg fun hh => hd hh.1)
    clear hd
    go_enter Try.func29, Try.ntmps29
    go_wp2_with fail
    refine COK.out.mono ?_
    rw [decide_eq_false HD.out]
    rintro e w1 ⟨rfl, hE1⟩
    go_wp2
    go_ret
    exact ⟨ret_int HV.out.symm, hE1⟩
-- law LeastTour
theorem law_LeastTour (a0 : Int) (A1 : Option Addr) (n1 c1 : Nat) (xs1 : List (List Int)) (a2 : Int) (a3 : Int) (w : World) (hi0 : I64 a0) (h1 : Grid w A1 n1 c1 xs1) (hi2 : I64 a2) (hi3 : I64 a3) :
    Calls Try.prog 6 #[.int .i64 a0, .slice A1 n1 c1, .int .i64 a2, .int .i64 a3] w fun e w' => e = .returned (.bool true) ∧ Ext w w' := by
  have hl1 := h1.len; subst hl1
  have HI1 := hide h1; clear h1
  by_cases hs1 : (bulk xs1 : Int) ≤ 1048576
  · skip
    have hb1 : bulk xs1 ≤ 1048576 := by omega
    have hbl1 : xs1.length ≤ 1048576 := by have h := hb1; unfold bulk at h; omega
    have hbt1 : tot xs1 ≤ 1048576 := by have h := hb1; unfold bulk at h; omega
    go_enter Try.func6, Try.ntmps6
    have HSZ := hide (szLeft_yes (n := bulk xs1) (left := 1048576) (by omega))
    go_wp2_with fail
    refine (szIntSS_any _ _ _ xs1 _ _ HI1.out (by omega) (by omega)).mono ?_; rw [HSZ.out]; rintro e w' ⟨rfl, rfl⟩
    clear HSZ
    go_wp2_with fail
    refine (toIntSS_any _ _ _ xs1 _ HI1.out hb1).mono ?_; rintro e w1 ⟨At1, ct1, rfl, ho, hE⟩
    have hz1 := hE.size
    have HE := hide hE
    clear hE
    have HOt1 := hide ho; clear ho
    go_wp2_with fail
    refine (sLeast_any a0 _ _ _ xs1 a2 a3 _ hi0 HOt1.out.grid).mono ?_; rintro e w2 ⟨rfl, hE⟩
    replace HOt1 := hide (HOt1.out.ext hE)
    have hz2 := hE.size
    replace HE := hide (HE.out.trans hE)
    clear hE
    go_wp2_with fail
    refine (toIntSS_any _ _ _ xs1 _ (HI1.out.ext HE.out) hb1).mono ?_; rintro e w3 ⟨Ax1, cx1, rfl, ho, hE⟩
    replace HOt1 := hide (HOt1.out.ext hE)
    have hz3 := hE.size
    replace HE := hide (HE.out.trans hE)
    clear hE
    have HOx1 := hide ho; clear ho
    go_wp2_with fail
    refine (iLeast_any a0 _ _ _ xs1 a2 a3 _ hi0 HOx1.out.grid).mono ?_; rintro e w4 ⟨rfl, hE⟩
    replace HOt1 := hide (HOt1.out.ext hE)
    replace HOx1 := hide (HOx1.out.ext hE)
    have hz4 := hE.size
    replace HE := hide (HE.out.trans hE)
    clear hE
    go_wp2_with fail
    refine (toIntSS_any _ _ _ xs1 _ (HI1.out.ext HE.out) hb1).mono ?_; rintro e w5 ⟨At3, ct3, rfl, ho, hE⟩
    replace HOt1 := hide (HOt1.out.ext hE)
    replace HOx1 := hide (HOx1.out.ext hE)
    have hz5 := hE.size
    replace HE := hide (HE.out.trans hE)
    clear hE
    have HOt3 := hide ho; clear ho
    go_wp2_with fail
    refine (eqIntSS_any _ _ _ (xs1) _ _ _ (xs1) _ HOx1.out.grid HOt3.out.grid).mono ?_; rintro e w6 ⟨rfl, hE⟩
    replace HOt1 := hide (HOt1.out.ext hE)
    replace HOx1 := hide (HOx1.out.ext hE)
    replace HOt3 := hide (HOt3.out.ext hE)
    have hz6 := hE.size
    replace HE := hide (HE.out.trans hE)
    clear hE
    go_wp2
    go_ret
    exact ⟨by first | rfl | simp, HE.out⟩
  · go_enter Try.func6, Try.ntmps6
    have HSZ := hide (szLeft_no (n := bulk xs1) (left := 1048576) (by omega))
    go_wp2_with fail
    refine (szIntSS_any _ _ _ xs1 _ _ HI1.out (by omega) (by omega)).mono ?_; rw [HSZ.out]; rintro e w' ⟨rfl, rfl⟩
    clear HSZ
    go_wp2
    go_ret
    exact ⟨rfl, Ext.refl _⟩

end Go.Proofs.Ytafhcnnbiheofaa
