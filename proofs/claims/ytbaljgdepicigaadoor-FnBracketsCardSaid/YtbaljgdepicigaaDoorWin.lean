/-
  Contracts of the functions that ask who can win a bracket.
-/
import Derived.Laws.ShiftsVar
import Derived.Test.YtbaljgdepicigaaDoorBase
import Derived.Test.YtbaljgdepicigaaDoorMgA
import Derived.Test.YtbaljgdepicigaaDoorLib
import Derived.Test.YtbaljgdepicigaaDoorAid
import Derived.Test.YtbaljgdepicigaaDoorGrid
import Derived.Test.YtbaljgdepicigaaDoorLibF
import Derived.Test.YtbaljgdepicigaaDoorStep
import Derived.Test.YtbaljgdepicigaaDoorPop
import Derived.Test.YtbaljgdepicigaaDoorSeed
import Derived.Test.YtbaljgdepicigaaDoorTour
import Derived.Test.YtbaljgdepicigaaDoorTourB
namespace Go.Proofs.YtbaljgdepicigaaDoor
open Go.RowKit
set_option linter.unusedVariables false

-- words
theorem or_i64 (a b : Nat) (ha : a < 9223372036854775808) (hb : b < 9223372036854775808) : bits .or .i64 (a : Int) (b : Int) = ((a ||| b : Nat) : Int) := by
  have hx : a ||| b < 2 ^ 63 := Nat.or_lt_two_pow (by omega) (by omega)
  have h1 : (BitVec.ofInt 64 (a : Int)).toNat = a := by
    rw [BitVec.ofInt_natCast, BitVec.toNat_ofNat]; exact Nat.mod_eq_of_lt (by omega)
  have h2 : (BitVec.ofInt 64 (b : Int)).toNat = b := by
    rw [BitVec.ofInt_natCast, BitVec.toNat_ofNat]; exact Nat.mod_eq_of_lt (by omega)
  show IntKind.i64.wrap ((BitVec.ofInt 64 (a : Int) ||| BitVec.ofInt 64 (b : Int)).toNat : Int) = _
  rw [BitVec.toNat_or, h1, h2, IntKind.wrap_i64]
  omega
theorem andn_bits {a b : Nat} (ha : a < 256) (hb : b < 256) : a &&& (2 ^ 64 - 1 - b) = a &&& (255 - b) := by
  apply Nat.eq_of_testBit_eq
  intro i
  rw [Nat.testBit_and, Nat.testBit_and, show 2 ^ 64 - 1 - b = 2 ^ 64 - (b + 1) by omega, show 255 - b = 2 ^ 8 - (b + 1) by omega, Nat.testBit_two_pow_sub_succ (by omega), Nat.testBit_two_pow_sub_succ (by omega)]
  by_cases hi : i < 8
  · have : i < 64 := by omega
    simp [hi, this]
  · have h2 : a.testBit i = false := Nat.testBit_lt_two_pow (Nat.lt_of_lt_of_le ha (Nat.pow_le_pow_right (n := 2) (i := 8) (by omega) (by omega)))
    simp [h2]
theorem andnot_i64 (a b : Nat) (ha : a < 256) (hb : b < 256) : bits .andNot .i64 (a : Int) (b : Int) = ((a &&& (255 - b) : Nat) : Int) := by
  have h1 : (BitVec.ofInt 64 (a : Int)).toNat = a := by
    rw [BitVec.ofInt_natCast, BitVec.toNat_ofNat]; exact Nat.mod_eq_of_lt (by omega)
  have h2 : (BitVec.ofInt 64 (b : Int)).toNat = b := by
    rw [BitVec.ofInt_natCast, BitVec.toNat_ofNat]; exact Nat.mod_eq_of_lt (by omega)
  show IntKind.i64.wrap ((BitVec.ofInt 64 (a : Int) &&& ~~~ BitVec.ofInt 64 (b : Int)).toNat : Int) = _
  rw [BitVec.toNat_and, BitVec.toNat_not, h1, h2, andn_bits ha hb, IntKind.wrap_i64]
  have : a &&& (255 - b) ≤ a := Nat.and_le_left
  omega
theorem andn_get {a b : Nat} (hb : b < 256) {i : Nat} (hi : i < 8) : (a &&& (255 - b)).testBit i = (a.testBit i && !b.testBit i) := by
  rw [Nat.testBit_and, show 255 - b = 2 ^ 8 - (b + 1) by omega, Nat.testBit_two_pow_sub_succ (by omega)]
  simp [hi]
theorem andn_zero {h m : Nat} (hh : h < 256) (hm : m < 256) : h &&& (255 - m) = 0 ↔ h &&& m = h := by
  constructor
  · intro e
    apply Nat.eq_of_testBit_eq
    intro i
    rw [Nat.testBit_and]
    by_cases hi : i < 8
    · have h2 := andn_get (a := h) hm hi
      rw [e, Nat.zero_testBit] at h2
      cases h3 : h.testBit i <;> cases h4 : m.testBit i <;> simp_all
    · have h2 : h.testBit i = false := Nat.testBit_lt_two_pow (Nat.lt_of_lt_of_le hh (Nat.pow_le_pow_right (n := 2) (i := 8) (by omega) (by omega)))
      simp [h2]
  · intro e
    apply Nat.eq_of_testBit_eq
    intro i
    rw [Nat.zero_testBit]
    by_cases hi : i < 8
    · rw [andn_get hm hi]
      have h2 := congrArg (fun z => z.testBit i) e
      simp only [Nat.testBit_and] at h2
      cases h3 : h.testBit i <;> cases h4 : m.testBit i <;> simp_all
    · rw [Nat.testBit_and]
      have h2 : h.testBit i = false := Nat.testBit_lt_two_pow (Nat.lt_of_lt_of_le hh (Nat.pow_le_pow_right (n := 2) (i := 8) (by omega) (by omega)))
      simp [h2]
/-- What an inner round needs of a player of a part. -/
theorem win_player {xs : List Int} {k h set n : Nat} (hh : h < 256) (hs : h &&& set = h) (hp : pc h = pw2 k) (hset : set < 2 ^ n) (hn : n ≤ 8) {x : Int} (hx : x ∈ mems (win xs k h)) : ∃ a : Nat, x = (a : Int) ∧ a < n ∧ a < 8 := by
  obtain ⟨a, ha, hb, rfl⟩ := mem_mems.1 hx
  refine ⟨a, rfl, ?_, ha⟩
  have h1 := win_sub xs k h hh hp a hb
  have h2 := subB_and hs a h1
  rcases Nat.lt_or_ge a n with h3 | h3
  · exact h3
  · rw [Nat.testBit_lt_two_pow (Nat.lt_of_lt_of_le hset (Nat.pow_le_pow_right (by omega) h3))] at h2
    cases h2
theorem addW_lt {xs : List Int} {two out : Nat} (ho : out < 256) : ∀ l : List Int, (∀ x ∈ l, ∃ a : Nat, x = (a : Int) ∧ a < 8) → addW xs two out l < 256 := by
  intro l hl
  apply Nat.lt_pow_two_of_testBit (n := 8)
  intro i hi
  rw [addW_bits]
  rw [Nat.testBit_lt_two_pow (Nat.lt_of_lt_of_le ho (Nat.pow_le_pow_right (n := 2) (i := 8) (by omega) hi)), Bool.false_or, List.any_eq_false]
  intro x hx
  obtain ⟨a, rfl, ha⟩ := hl x hx
  simp
  intro e; omega
theorem or_shl (out a : Nat) (ho : out < 256) (ha : a < 8) : bits .or .i64 (out : Int) (wrap64 (2 ^ a)) = ((out ||| 2 ^ a : Nat) : Int) := by
  have h1 : (2 : Nat) ^ a ≤ 2 ^ 7 := Nat.pow_le_pow_right (by omega) (by omega)
  have h3 : ((2 ^ a : Nat) : Int) = (2 : Int) ^ a := by simp
  have h4 : wrap64 (2 ^ a) = ((2 ^ a : Nat) : Int) := by
    rw [← h3]; generalize (2 : Nat) ^ a = p at *; unfold wrap64; omega
  rw [h4]
  exact or_i64 _ _ (by omega) (by omega)
theorem pw2_le3 {k : Nat} (h : pw2 k ≤ 8) : k ≤ 3 := by
  rcases Nat.lt_or_ge k 4 with h4 | h4
  · omega
  · have := pw2_mono h4; simp [pw2] at this; omega
theorem wTo_lt {xs : List Int} {k set : Nat} (hs : set < 256) (hp : pc set = pw2 (k + 1)) {h : Nat} (hh : h ≤ set) : wTo xs (win xs k) set (pw2 k) h < 256 :=
  lt_of_sub (n := 8) (wTo_sub hs (fun h hh hpc => win_sub xs k h (by have : h ≤ set := by rw [← hh]; exact Nat.and_le_right
                                                                     omega) hpc) h hh) hs
theorem tourOk_szW {s : Int} {xs : List Int} {n : Nat} (h : tourOk s xs) (hl : xs.length = n) : 1 ≤ n ∧ n ≤ 8 ∧ s ≤ n ∧ n ≤ s := by have := tourOk_size h; omega
-- winners impl
set_option maxHeartbeats 1000000 in
theorem iWinners_any (s : Int) (A : Option Addr) (n c : Nat) (xs : List Int) (ht : tourOk s xs) (hl : xs.length = n) : ∀ (k set : Nat), set < 256 → set < 2 ^ n → pc set = pw2 k → ∀ w : World, Ints w A n c xs →
    Calls Tryd.prog 42 #[.agg #[.int .i64 s, .slice A n c], .int .i64 (set : Int)] w fun e w' => e = .returned (.int .i64 (win xs k set : Int)) ∧ Ext w w' := by
  have hs8 := tourOk_szW ht hl
  have HX0 := hide (tourOk_row ht)
  have HL := hide hl
  clear ht hl
  intro k
  induction k with
  | zero =>
    intro set hlt hln hp w h
    have HP : Hid (pc set = 1) := hide hp
    clear hp
    go_enter Tryd.func42, Tryd.ntmps42
    go_wp2_with (go_at_call 46; refine (OnesCount_small set hlt _).mono ?_; rw [HP.out]; rintro e w' ⟨rfl, rfl⟩)
    go_ret
    exact ⟨rfl, Ext.one _ _⟩
  | succ k ih =>
    intro set hlt hln hp w h
    have HIH := hide ih
    have H_h := hide h
    have hp1 := pw2_pos k
    have hpe := pw2_eq k
    have hp8 := pc_le set hlt
    have HPC := hide hp
    have HWL := hide (fun h (hh : h ≤ set) => wTo_lt (xs := xs) hlt hp hh)
    have HSB := hide (pc_sub set hlt)
    generalize hz : pc set = z at *
    have HZ := hide hz; clear hz
    generalize hpk : pw2 k = p at *
    have HPK := hide hpk; clear hpk
    have hz2 : z ≤ 2 * p ∧ 2 * p ≤ z := by omega
    clear ih h hp hpe
    have hz1 : ((z : Int) == 1) = false := by simp; omega
    have hsp : 1 ≤ set := by
      rcases Nat.eq_zero_or_pos set with e | e
      · subst e; have := HZ.out; simp [pc] at this; omega
      · exact e
    have hpy : ∀ y : Nat, y = p → ((y : Int) != (z : Int) / 2) = false := fun y hy => by simp; omega
    have HY1 := hide hpy
    have hpn : ∀ y : Nat, ¬ y = p → ((y : Int) != (z : Int) / 2) = true := fun y hy => by rw [bne_iff_ne]; omega
    have HY0 := hide hpn
    clear hpy hpn
    go_enter Tryd.func42, Tryd.ntmps42
    go_wp2_with (go_at_call 46; refine (OnesCount_small set hlt _).mono ?_; rw [HZ.out]; rintro e w' ⟨rfl, rfl⟩)
    obtain ⟨W, hW⟩ : ∃ W : World, W = w.alloc (.cells #[.int .i64 s, .slice A n c] 26) := ⟨_, rfl⟩
    have HE := hide (show Ext w W by rw [hW]; exact Ext.one _ _)
    have B0 := hide (show W.cell? ⟨w.heap.size, 0, none⟩ = some (.int .i64 s) by rw [hW]; simp)
    have B1 := hide (show W.cell? ⟨w.heap.size, 1, none⟩ = some (.slice A n c) by rw [hW]; simp)
    rw [← hW]
    clear hW hz1
    go_loopw [6, 7] (fun o i wr => ∃ (q out : Nat), 1 ≤ q ∧ q ≤ set ∧ i = .int .i64 (q : Int) ∧ o = .int .i64 (out : Int) ∧ Hid (out = wTo xs (win xs k) set p q ∧ out < 256) ∧ Ext W wr) (fun _ i _ => set - (intOf i).toNat)
    case atStart => exact ⟨1, 0, by omega, by omega, rfl, rfl, hide ⟨by simp [wTo], by omega⟩, Ext.refl _⟩
    case round =>
      obtain ⟨q, out0, hq1, hq2, rfl, rfl, HR, hE⟩ := hrel
      have HER := hide hE
      have e0 := hE.get B0.out
      have e1 := hE.get B1.out
      clear hE
      by_cases hltq : q < set
      · have HA := hide (bits_and_i64 q set (by omega) (by omega))
        have HNO := hide (show ¬ (1 ≤ q ∧ q &&& set = q ∧ pc q = p) → out0 = wTo xs (win xs k) set p (q + 1) from fun hn => by rw [wTo_no hn]; exact HR.out.1)
        by_cases hs : q &&& set = q
        · have hq : (bits BinOp.and IntKind.i64 (q : Int) (set : Int) != (q : Int)) = false := by rw [HA.out, hs]; simp
          have HS := hide hs
          clear hs
          by_cases hpc : pc q = p
          · have HPQ := hide hpc
            have hneq := HY1.out _ hpc
            clear hpc
            have hsub := HSB.out q (by omega) HS.out
            have HPS := hide (show pc (set - q) = p by have := HPQ.out; omega)
            clear hsub
            have HANDN := hide (show bits BinOp.andNot IntKind.i64 (set : Int) (q : Int) = ((set - q : Nat) : Int) by rw [andnot_i64 set q hlt (by omega), sub_bits set hlt q (by omega) HS.out])
            have hw2 := win_lt xs (k := k) (set := set - q) (by omega) (by rw [HPS.out, HPK.out])
            have hw1 := win_lt xs (k := k) (set := q) (by omega) (by rw [HPQ.out, HPK.out])
            have HPL := hide (fun x (hx : x ∈ mems (win xs k q)) => win_player (n := n) (by omega) HS.out (by rw [HPQ.out, HPK.out]) hln (by omega) hx)
            go_wp2_with ((go_at_call 46; refine (OnesCount_small q (by omega) _).mono ?_; rintro e w' ⟨rfl, rfl⟩))
            rw [HANDN.out]
            refine (HIH.out (set - q) (by omega) (by omega) HPS.out _ (H_h.out.ext (HE.out.trans HER.out))).mono ?_
            rintro e w5 ⟨rfl, hE5⟩
            have g0 := hE5.get e0
            have g1 := hE5.get e1
            clear e0 e1 hneq hq
            go_wp2_with fail
            refine (HIH.out q (by omega) (by omega) HPQ.out _ (H_h.out.ext ((HE.out.trans HER.out).trans hE5))).mono ?_
            rintro e w6 ⟨rfl, hE6⟩
            have HIL := hide (membersOf_small (win xs k q) hw1)
            go_wp2_with fail
            refine (HIL.out _).mono ?_
            rintro e w7 ⟨B, d, rfl, hoB, hE7⟩
            have HTWO := hide hw2
            generalize htwo : win xs k (set - q) = two at *
            have HT2 := hide htwo
            generalize hlist : mems (win xs k q) = L at *
            have HLS := hide hlist
            clear htwo hlist hw1 hw2
            have HLI := hide hoB.ints
            have hLm := hoB.max
            have hLl := hoB.le
            have HEB := hide ((hE5.trans hE6).trans hE7)
            have HEW := hide ((HE.out.trans HER.out).trans HEB.out)
            have F0 := hide (((hE6.trans hE7)).get g0)
            have F1 := hide (((hE6.trans hE7)).get g1)
            have HOUT0 := hide HR.out.2
            clear g0 g1 hoB hE5 hE6 hE7
            go_wp2
            go_loopw [6, 45] (fun o i wr => ∃ (j out : Nat), j ≤ L.length ∧ i = .int .i64 (j : Int) ∧ o = .int .i64 (out : Int) ∧ Hid (out = addW xs two out0 (L.take j) ∧ out < 256) ∧ Ext w7 wr) (fun _ i _ => L.length - (intOf i).toNat)
            case atStart => exact ⟨0, out0, Nat.zero_le _, rfl, rfl, hide ⟨by simp [addW], HOUT0.out⟩, Ext.refl _⟩
            case round =>
              obtain ⟨j, out, hj, rfl, rfl, HO, hE⟩ := hrel
              have HEI := hide hE
              have f0 := hE.get F0.out
              have f1 := hE.get F1.out
              clear hE
              by_cases hltj : j < L.length
              · obtain ⟨b1, o1, x, hA1, hb1, hx, wx, hc1⟩ := (HLI.out.ext HEI.out).get hltj
                obtain ⟨a, rfl, han, ha8⟩ := HPL.out x (List.mem_of_getElem? hx)
                obtain ⟨b2, o2, y, hA2, hb2, hy, wy, hc2⟩ := ((H_h.out.ext HEW.out).ext HEI.out).get han
                subst hA1
                subst hA2
                have HTK := hide (addW_take xs two out0 hx)
                have hyb := HX0.out y (List.mem_of_getElem? hy)
                obtain ⟨r, rfl⟩ : ∃ r : Nat, y = (r : Int) := ⟨y.toNat, by omega⟩
                have HRW := hide (show rowN xs (a : Int) = r by simp [rowN, List.getD, hy])
                have HAND := hide (bits_and_i64 r two (by omega) (by have := HTWO.out; omega))
                have HOR := hide (or_shl out a HO.out.2 ha8)
                have HOB := hide (or_bit out HO.out.2 a ha8).1
                clear hx hy
                have hab : (0 : Int) ≤ (a : Int) := by omega
                have han' : (a : Int) < (n : Int) := by omega
                by_cases hz : r &&& two = 0
                · have hq : (bits BinOp.and IntKind.i64 (r : Int) (two : Int) != 0) = false := by rw [HAND.out, hz]; rfl
                  have HN := hide (show out = addW xs two out0 (L.take (j + 1)) by rw [HTK.out, HRW.out, if_pos hz]; exact HO.out.1)
                  clear hz
                  go_wp2
                  go_roundw
                  case rel => exact ⟨j + 1, out, by omega, by go_num, rfl, hide ⟨HN.out, HO.out.2⟩, HEI.out⟩
                  case measure => (simp [intOf] <;> omega)
                · have hq : (bits BinOp.and IntKind.i64 (r : Int) (two : Int) != 0) = true := by rw [HAND.out, bne_iff_ne]; omega
                  have HN := hide (show out ||| 2 ^ a = addW xs two out0 (L.take (j + 1)) by rw [HTK.out, HRW.out, if_neg hz, ← HO.out.1, Int.toNat_natCast])
                  clear hz
                  go_wp2
                  rw [HOR.out]
                  go_roundw
                  case rel => exact ⟨j + 1, out ||| 2 ^ a, by omega, by go_num, rfl, hide ⟨HN.out, HOB.out⟩, HEI.out⟩
                  case measure => (simp [intOf] <;> omega)
              · have hke : j = L.length := by omega
                have HN := hide (show out = wTo xs (win xs k) set p (q + 1) by
                  have h5 := HO.out.1
                  rw [hke, List.take_length] at h5
                  rw [h5]
                  rw [wTo_yes hq1 HS.out HPQ.out, HT2.out, HLS.out, ← HR.out.1])
                have HO2 := hide HO.out.2
                clear hke HO
                go_wp2
                go_roundw
                case rel => exact ⟨q + 1, out, by omega, by omega, by go_num, rfl, hide ⟨HN.out, HO2.out⟩, (HER.out.trans HEB.out).trans HEI.out⟩
                case measure => (simp [intOf] <;> omega)
          · have hneq := HY0.out _ hpc
            have HN := hide (HNO.out (fun hh => hpc hh.2.2))
            clear hpc
            go_wp2_with ((go_at_call 46; refine (OnesCount_small q (by omega) _).mono ?_; rintro e w' ⟨rfl, rfl⟩))
            go_roundw
            case rel => exact ⟨q + 1, out0, by omega, by omega, by go_num, rfl, hide ⟨HN.out, HR.out.2⟩, HER.out⟩
            case measure => (simp [intOf] <;> omega)
        · have hq : (bits BinOp.and IntKind.i64 (q : Int) (set : Int) != (q : Int)) = true := by rw [HA.out, bne_iff_ne]; omega
          have HN := hide (HNO.out (fun hh => hs hh.2.1))
          clear hs
          go_wp2
          go_roundw
          case rel => exact ⟨q + 1, out0, by omega, by omega, by go_num, rfl, hide ⟨HN.out, HR.out.2⟩, HER.out⟩
          case measure => (simp [intOf] <;> omega)
      · have hke : q = set := by omega
        have HW := hide (show win xs (k + 1) set = out0 by rw [HR.out.1, hke, ← HPK.out]; rfl)
        clear hke
        go_wp2
        go_ret
        exact ⟨ret_int (by rw [HW.out]), HE.out.trans HER.out⟩

end Go.Proofs.YtbaljgdepicigaaDoor
