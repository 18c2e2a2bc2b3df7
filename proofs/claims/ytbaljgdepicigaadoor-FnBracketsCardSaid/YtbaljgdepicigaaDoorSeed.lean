/-
  Contracts of the functions on seeds.
-/
import Derived.Test.YtbaljgdepicigaaDoorBase
import Derived.Test.YtbaljgdepicigaaDoorMgA
import Derived.Test.YtbaljgdepicigaaDoorLib
import Derived.Test.YtbaljgdepicigaaDoorAid
namespace Go.Proofs.YtbaljgdepicigaaDoor
open Go.RowKit
set_option linter.unusedVariables false

-- impl.isBracketSize
theorem isBracketSize_any (n : Int) (w : World) :
    Calls Tryd.prog 45 #[.int .i64 n] w fun e w' => e = .returned (.bool (decide (brkSize n))) ∧ w = w' := by
  by_cases h1 : n = 1
  · subst h1; go_enter Tryd.func45, Tryd.ntmps45; go_wp2; go_ret; exact ⟨rfl, rfl⟩
  by_cases h2 : n = 2
  · subst h2; go_enter Tryd.func45, Tryd.ntmps45; go_wp2; go_ret; exact ⟨rfl, rfl⟩
  by_cases h4 : n = 4
  · subst h4; go_enter Tryd.func45, Tryd.ntmps45; go_wp2; go_ret; exact ⟨rfl, rfl⟩
  by_cases h8 : n = 8
  · subst h8; go_enter Tryd.func45, Tryd.ntmps45; go_wp2; go_ret; exact ⟨rfl, rfl⟩
  have hf : decide (brkSize n) = false := by simp [brkSize, h1, h2, h4, h8]
  have e1 : (n == 1) = false := by simpa using h1
  have e2 : (n == 2) = false := by simpa using h2
  have e4 : (n == 4) = false := by simpa using h4
  have e8 : (n == 8) = false := by simpa using h8
  have HF := hide hf; clear hf h1 h2 h4 h8
  go_enter Tryd.func45, Tryd.ntmps45; go_wp2; go_ret; exact ⟨ret_bool HF.out.symm, rfl⟩
-- spec.l21Size
theorem l21Size_any (n : Int) (w : World) :
    Calls Tryd.prog 95 #[.int .i64 n] w fun e w' => e = .returned (.bool (decide (brkSize n))) ∧ w = w' := by
  by_cases h1 : n = 1
  · subst h1; go_enter Tryd.func95, Tryd.ntmps95; go_wp2; go_ret; exact ⟨rfl, rfl⟩
  by_cases h2 : n = 2
  · subst h2; go_enter Tryd.func95, Tryd.ntmps95; go_wp2; go_ret; exact ⟨rfl, rfl⟩
  by_cases h4 : n = 4
  · subst h4; go_enter Tryd.func95, Tryd.ntmps95; go_wp2; go_ret; exact ⟨rfl, rfl⟩
  by_cases h8 : n = 8
  · subst h8; go_enter Tryd.func95, Tryd.ntmps95; go_wp2; go_ret; exact ⟨rfl, rfl⟩
  have hf : decide (brkSize n) = false := by simp [brkSize, h1, h2, h4, h8]
  have e1 : (n == 1) = false := by simpa using h1
  have e2 : (n == 2) = false := by simpa using h2
  have e4 : (n == 4) = false := by simpa using h4
  have e8 : (n == 8) = false := by simpa using h8
  have HF := hide hf; clear hf h1 h2 h4 h8
  go_enter Tryd.func95, Tryd.ntmps95; go_wp2; go_ret; exact ⟨ret_bool HF.out.symm, rfl⟩
-- math/bits.Len64
set_option maxRecDepth 100000 in
theorem Len64_small (x : Nat) (hx : x < 8) (w : World) :
    Calls Tryd.prog 98 #[.int .u64 x] w fun e w' => e = .returned (.int .i64 (lenR x)) ∧ w = w' := by
  match x, hx with
  | 0, _ => go_enter Tryd.func98, Tryd.ntmps98; go_wp2; go_ret; exact ⟨ret_int (by kernel_rfl), rfl⟩
  | 1, _ => go_enter Tryd.func98, Tryd.ntmps98; go_wp2; go_ret; exact ⟨ret_int (by kernel_rfl), rfl⟩
  | 2, _ => go_enter Tryd.func98, Tryd.ntmps98; go_wp2; go_ret; exact ⟨ret_int (by kernel_rfl), rfl⟩
  | 3, _ => go_enter Tryd.func98, Tryd.ntmps98; go_wp2; go_ret; exact ⟨ret_int (by kernel_rfl), rfl⟩
  | 4, _ => go_enter Tryd.func98, Tryd.ntmps98; go_wp2; go_ret; exact ⟨ret_int (by kernel_rfl), rfl⟩
  | 5, _ => go_enter Tryd.func98, Tryd.ntmps98; go_wp2; go_ret; exact ⟨ret_int (by kernel_rfl), rfl⟩
  | 6, _ => go_enter Tryd.func98, Tryd.ntmps98; go_wp2; go_ret; exact ⟨ret_int (by kernel_rfl), rfl⟩
  | 7, _ => go_enter Tryd.func98, Tryd.ntmps98; go_wp2; go_ret; exact ⟨ret_int (by kernel_rfl), rfl⟩
-- math/bits.Len
theorem Len_small (x : Nat) (hx : x < 8) (w : World) :
    Calls Tryd.prog 69 #[.int .u64 x] w fun e w' => e = .returned (.int .i64 (lenR x)) ∧ w = w' := by
  go_enter Tryd.func69, Tryd.ntmps69
  go_wp2_with (go_at_call 98; refine (Len64_small _ hx _).mono ?_; rintro e w' ⟨rfl, rfl⟩)
  go_ret
  exact ⟨rfl, rfl⟩
-- impl.RoundOfMeeting
theorem ofInt_i64 (a : Nat) (ha : a < 9223372036854775808) : (BitVec.ofInt 64 (a : Int)).toNat = a := by
  rw [BitVec.ofInt_natCast, BitVec.toNat_ofNat]; exact Nat.mod_eq_of_lt (by omega)
theorem i64_xor_nat (a b : Nat) (ha : a < 9223372036854775808) (hb : b < 9223372036854775808) : bits .xor .i64 (a : Int) (b : Int) = ((a ^^^ b : Nat) : Int) := by
  have hx : a ^^^ b < 2 ^ 63 := Nat.xor_lt_two_pow (by omega) (by omega)
  show IntKind.i64.wrap ((BitVec.ofInt 64 (a : Int) ^^^ BitVec.ofInt 64 (b : Int)).toNat : Int) = _
  rw [BitVec.toNat_xor, ofInt_i64 a ha, ofInt_i64 b hb, IntKind.wrap_i64]
  omega
theorem iRoundOfMeeting_any (n i k : Int) (w : World) :
    Calls Tryd.prog 28 #[.int .i64 n, .int .i64 i, .int .i64 k] w fun e w' => e = .returned (.int .i64 (roundOfMeeting n i k)) ∧ w = w' := by
  by_cases hn : brkSize n
  · by_cases h1 : n = 1
    · subst h1
      have HR := hide (show roundOfMeeting 1 i k = 0 by
        unfold roundOfMeeting
        split
        · rename_i h
          obtain rfl : i = 0 := by omega
          obtain rfl : k = 0 := by omega
          rfl
        · rfl)
      clear hn
      go_enter Tryd.func28, Tryd.ntmps28
      go_wp2
      go_ret
      exact ⟨ret_int HR.out.symm, rfl⟩
    · have e1 : (n == 1) = false := by simpa using h1
      have hbd : 2 ≤ n ∧ n ≤ 8 := by rcases hn with rfl | rfl | rfl | rfl <;> omega
      clear h1
      by_cases hi : 0 ≤ i ∧ i ≤ n - 1
      · by_cases hk : 0 ≤ k ∧ k ≤ n - 1
        · have HR := hide (show roundOfMeeting n i k = meetR i.toNat k.toNat by rw [roundOfMeeting, if_pos ⟨hn, hi, hk⟩])
          obtain ⟨i, rfl⟩ := Int.eq_ofNat_of_zero_le hi.1
          obtain ⟨k, rfl⟩ := Int.eq_ofNat_of_zero_le hk.1
          simp only [Int.toNat_natCast] at HR
          have hx := lenR_xor i (by omega) k (by omega)
          have HX := hide hx.1
          have hx8 := hx.2
          have hxx := i64_xor_nat i k (by omega) (by omega)
          clear hx
          generalize i ^^^ k = x at *
          go_enter Tryd.func28, Tryd.ntmps28
          go_wp2_with (first | (go_at_call 45; refine (isBracketSize_any _ _).mono ?_; rintro e w' ⟨rfl, rfl⟩) | (go_at_call 44; refine (within_any _ _ _ _).mono ?_; rintro e w' ⟨rfl, rfl⟩) | (go_at_call 69; refine (Len_small x hx8 _).mono ?_; rintro e w' ⟨rfl, rfl⟩))
          go_ret
          exact ⟨ret_int (by rw [HR.out, ← HX.out]), rfl⟩
        · have HR := hide (show roundOfMeeting n i k = 0 by rw [roundOfMeeting, if_neg (fun h => hk h.2.2)])
          go_enter Tryd.func28, Tryd.ntmps28
          go_wp2_with (first | (go_at_call 45; refine (isBracketSize_any _ _).mono ?_; rintro e w' ⟨rfl, rfl⟩) | (go_at_call 44; refine (within_any _ _ _ _).mono ?_; rintro e w' ⟨rfl, rfl⟩))
          go_ret
          exact ⟨ret_int HR.out.symm, rfl⟩
      · have HR := hide (show roundOfMeeting n i k = 0 by rw [roundOfMeeting, if_neg (fun h => hi h.2.1)])
        go_enter Tryd.func28, Tryd.ntmps28
        go_wp2_with (first | (go_at_call 45; refine (isBracketSize_any _ _).mono ?_; rintro e w' ⟨rfl, rfl⟩) | (go_at_call 44; refine (within_any _ _ _ _).mono ?_; rintro e w' ⟨rfl, rfl⟩))
        go_ret
        exact ⟨ret_int HR.out.symm, rfl⟩
  · have HR := hide (show roundOfMeeting n i k = 0 by rw [roundOfMeeting, if_neg (fun h => hn h.1)])
    have e1 : (n == 1) = false := by have : ¬ n = 1 := fun e => hn (.inl e); simpa using this
    go_enter Tryd.func28, Tryd.ntmps28
    go_wp2_with (first | (go_at_call 45; refine (isBracketSize_any _ _).mono ?_; rintro e w' ⟨rfl, rfl⟩))
    go_ret
    exact ⟨ret_int HR.out.symm, rfl⟩
-- impl.SeedOrder
theorem seed_lo (w : World) {m x : Int} (hm : 0 ≤ m) (hm2 : m ≤ 100) (h1 : 1 ≤ x) (h2 : x ≤ m) : I64 x ∧ I64 (m + 1 - x) := ⟨⟨by omega, by omega⟩, ⟨by omega, by omega⟩⟩

theorem iSeedOrder_any (n : Int) (w : World) :
    Calls Tryd.prog 27 #[.int .i64 n] w (RetI w (seedOrder n)) := by
  by_cases hn : brkSize n
  · have HF := hide (show seedOrder n = seedTo (lg n) by rw [seedOrder, if_pos hn])
    obtain ⟨hp, hl⟩ := brk_pw2 hn
    have HP := hide hp
    generalize lg n = K at *
    have hb : 1 ≤ n ∧ n ≤ 8 := by rcases hn with rfl | rfl | rfl | rfl <;> omega
    clear hp
    go_enter Tryd.func27, Tryd.ntmps27
    go_wp2_with (first | (go_at_call 45; refine (isBracketSize_any _ _).mono ?_; rintro e w' ⟨rfl, rfl⟩))
    have h0 := ints_lit1 w (base := w.heap.size) 1 ⟨by omega, by omega⟩ (Nat.le_refl _)
    go_loopw [3, 4] (fun o s wr => ∃ (k : Nat) (A : Option Addr) (c m : Nat), k ≤ K ∧ m = pw2 k ∧ s = .int .i64 (2 * (m : Int)) ∧ o = .slice A m c ∧ OwI wr w.heap.size A m c (seedTo k) ∧ Ext w wr) (fun _ s _ => 17 - (intOf s).toNat)
    case atStart => exact ⟨0, _, 1, 1, by omega, rfl, rfl, rfl, h0, Ext.one _ _⟩
    case round =>
      obtain ⟨k, A, c, m, hk, hm, rfl, rfl, ho, hE⟩ := hrel
      clear h0
      have hms := pw2_small (k := k) (by omega)
      rw [← hm] at hms
      have HM := hide hm; clear hm
      by_cases hlt : k < K
      · have hm2 : 2 * (m : Int) ≤ n := by have := pw2_lt hlt; have := HP.out; have := HM.out; omega
        have hcl := ho.le
        have HO := hide ho; have HE := hide hE; clear ho hE
        go_wp2
        go_loopw [5, 19] (fun v i w2 => ∃ (j : Nat) (B : Option Addr) (d l : Nat), j ≤ m ∧ i = .int .i64 j ∧ l = 2 * j ∧ v = .slice B l d ∧ OwI w2 wr.heap.size B l d (seedStep (2 * m) ((seedTo k).take j)) ∧ Ext wr w2) (fun _ i _ => m - (intOf i).toNat)
        case atStart => exact ⟨0, _, 0, 0, by omega, rfl, rfl, rfl, OwI.nil _ _, Ext.refl _⟩
        case round =>
          obtain ⟨j, B, d, l, hj, rfl, hl2, rfl, hb2, hE2⟩ := hrel
          have HL2 := hide hl2
          have hl3 : l ≤ 32 := by omega
          clear hl2
          by_cases hlj : j < m
          · obtain ⟨b, off, x, rfl, hbl, hx, wx, hc⟩ := (HO.out.ints.ext hE2).get hlj
            have hwf := seed_wf k (by omega) x (List.mem_of_getElem? hx)
            rw [← HM.out] at hwf
            have hxx := hwf.1
            have hxy := hwf.2
            have HS := hide (seedStep_snoc (2 * m) hx)
            have HB := hide hb2; have HE2 := hide hE2
            clear hx hwf hb2 hE2
            have hbB := HE2.out.size
            go_wp2_with (at_builtin; refine push_ints rfl (.tmp 23) (.tmp 29) rfl rfl (HB.out.ext (Ext.one _ _)) (some ⟨_, 0, none⟩) 2 2 [x, 2 * m + 1 - x] rfl (ints_lit2 _ (base := 0) x (2 * m + 1 - x) wx ⟨by omega, by omega⟩ (Nat.zero_le _)).ints (by omega) (by simp; omega) ?_; intro B1 d1 w3 hb3 hg3 hat3)
            go_roundw
            case rel =>
              refine ⟨j + 1, B1, d1, l + 2, by omega, by go_num, by have := HL2.out; omega, rfl, by rw [HS.out]; exact hb3, ?_⟩
              exact (HE2.out.alloc _).grown hg3 (fun k hk => (HB.out.block k hk).1)
            case measure => (simp [intOf] <;> omega)
          · have : j = m := by omega
            subst this
            have HB := hide hb2; have HE2 := hide hE2; clear hb2 hE2
            go_wp2
            go_roundw
            case rel =>
              have hb := HB.out
              have e : l = pw2 (k + 1) := by have := HL2.out; have := HM.out; rw [pw2]; omega
              rw [take_len ((seedTo_len k).trans HM.out.symm)] at hb
              refine ⟨k + 1, B, d, l, by omega, e, by have := HL2.out; go_num, rfl, ?_, HE.out.trans HE2.out⟩
              have e2 : seedTo (k + 1) = seedStep (2 * j) (seedTo k) := by rw [seedTo, pw2, ← HM.out]; rfl
              rw [e2]
              exact hb.mono HE.out.size
            case measure => simp [intOf]; omega
      · have : k = K := by omega
        subst this
        have hm2 : ¬ 2 * (m : Int) ≤ n := by have := HP.out; have := HM.out; omega
        have HO := hide ho; have HE := hide hE; clear ho hE
        go_wp2
        go_ret
        exact RetI.mk rfl (by rw [HF.out]; exact HO.out) HE.out
  · have HF := hide (show seedOrder n = [] by rw [seedOrder, if_neg hn])
    go_enter Tryd.func27, Tryd.ntmps27
    go_wp2_with (first | (go_at_call 45; refine (isBracketSize_any _ _).mono ?_; rintro e w' ⟨rfl, rfl⟩))
    go_ret
    exact RetI.mk rfl (by rw [HF.out]; exact OwI.nil _ _) (Ext.refl _)
-- impl.SeedBracket
theorem iSeedBracket_any (A : Option Addr) (n c : Nat) (xs : List Int) (m : Int) (w : World) (h : Ints w A n c xs) :
    Calls Tryd.prog 31 #[.slice A n c, .int .i64 m] w (RetI w (seedBracket xs m)) := by
  have HL := hide h.len
  have hle := h.le
  have hmx := h.max
  have HI := hide h
  by_cases hn : brkSize m
  · have hbd : 1 ≤ m ∧ m ≤ 8 := by rcases hn with rfl | rfl | rfl | rfl <;> omega
    by_cases hin : 1 ≤ (n : Int) ∧ (n : Int) ≤ m
    · go_enter Tryd.func31, Tryd.ntmps31
      go_wp2_with (first | (go_at_call 45; refine (isBracketSize_any _ _).mono ?_; rintro e w' ⟨rfl, rfl⟩) | (go_at_call 44; refine (within_any _ _ _ _).mono ?_; rintro e w' ⟨rfl, rfl⟩))
      go_loop [22] (fun i => ∃ k : Nat, k ≤ n ∧ i = .int .i64 k ∧ Hid ((∀ x ∈ xs.take k, 0 ≤ x) ∧ (xs.take k).Nodup)) (fun i => n - (intOf i).toNat)
      case atStart => exact ⟨0, Nat.zero_le _, rfl, hide (by simp)⟩
      case round =>
        obtain ⟨k, hk, rfl, HR⟩ := hrel
        by_cases hlt : k < n
        · obtain ⟨b, off, x, rfl, hb, hx, wx, hc⟩ := h.get hlt
          have HX := hide hx; clear hx h
          by_cases hx0 : x < 0
          · have hd : decide (x < 0) = true := by simpa using hx0
            go_wp2
            go_ret
            exact RetI.mk rfl (by rw [seedBracket, if_neg (fun h => by have := h.2.2.1 x (List.mem_of_getElem? HX.out); omega)]; exact OwI.nil _ _) (Ext.refl _)
          · have hd : decide (x < 0) = false := by simpa using hx0
            go_wp2_with (go_at_call 54; refine (Contains_any _ _ _ (xs.take k) _ _ (HI.out.take (by omega))).mono ?_; rintro e w' ⟨rfl, rfl⟩)
            · have hm : x ∈ List.take k xs := by assumption
              go_ret
              exact RetI.mk rfl (by rw [seedBracket, if_neg (fun h => ((nodup_snoc HX.out).1 (nodup_take h.2.2.2)).2 hm)]; exact OwI.nil _ _) (Ext.refl _)
            · have hm : ¬ x ∈ List.take k xs := by assumption
              go_round
              case rel =>
                refine ⟨k + 1, by omega, by go_num, hide ⟨?_, (nodup_snoc HX.out).2 ⟨HR.out.2, hm⟩⟩⟩
                rw [take_snoc_of HX.out]
                intro y hy
                rcases List.mem_append.1 hy with hy | hy
                · exact HR.out.1 y hy
                · obtain rfl : y = x := by simpa using hy
                  omega
              case measure => (simp [intOf] <;> omega)
        · have hke : k = n := by omega
          subst hke
          have HF := hide (show seedBracket xs m = (seedOrder m).map (seedAt xs) by
            have := HR.out; rw [take_len HL.out] at this
            rw [seedBracket, if_pos ⟨hn, by have := HL.out; omega, this.1, this.2⟩])
          have HW := hide (seedOrder_wf hn)
          have hL8 := seedOrder_len m
          clear HR
          go_wp2_with fail
          refine (iSeedOrder_any m _).mono ?_; rintro e w1 ⟨A1, c1, rfl, ho1, hE1⟩
          have HO1 := hide ho1; have HE1 := hide hE1; clear ho1 hE1
          generalize seedOrder m = L at *
          go_wp2
          go_loopw [7, 40] (fun v i w2 => ∃ (j : Nat) (B : Option Addr) (d : Nat), j ≤ L.length ∧ i = .int .i64 j ∧ v = .slice B j d ∧ OwI w2 w1.heap.size B j d ((L.take j).map (seedAt xs)) ∧ Ext w1 w2) (fun _ i _ => L.length - (intOf i).toNat)
          case atStart => exact ⟨0, _, 0, by omega, rfl, rfl, OwI.nil _ _, Ext.refl _⟩
          case round =>
            obtain ⟨j, B, d, hj, rfl, rfl, hb2, hE2⟩ := hrel
            by_cases hlj : j < L.length
            · obtain ⟨b1, off1, s, rfl, hbl, hs, ws, hc⟩ := (HO1.out.ints.ext hE2).get hlj
              have hsw := HW.out s (List.mem_of_getElem? hs)
              have hs1 := hsw.1
              obtain ⟨s, rfl⟩ : ∃ t : Nat, s = t + 1 := ⟨(s - 1).toNat, by omega⟩
              have HS := hide (map_take_snoc (seedAt xs) hs)
              have HB := hide hb2; have HE2 := hide hE2
              clear hs hsw hb2 hE2
              have hbB := HE2.out.size
              by_cases hsn : s < k
              · obtain ⟨b, off, x, rfl, hb, hx, wx, hcx⟩ := (HI.out.ext (HE1.out.trans HE2.out)).get hsn
                have HX := hide (seedAt_in hx); clear hx
                go_wp2_with (at_builtin; refine push_ints rfl (.tmp 48) (.tmp 54) rfl rfl (HB.out.ext (Ext.one _ _)) (some ⟨_, 0, none⟩) 1 1 [x] rfl (ints_lit1 _ (base := 0) x wx (Nat.zero_le _)).ints (by omega) (by simp; omega) ?_; intro B1 d1 w3 hb3 hg3 hat3)
                go_roundw
                case rel => exact ⟨j + 1, B1, d1, by omega, by go_num, rfl, by rw [HS.out, HX.out]; exact hb3, (HE2.out.alloc _).grown hg3 (fun k hk => (HB.out.block k hk).1)⟩
                case measure => (simp [intOf] <;> omega)
              · have hneg : seedAt xs (s + 1) = -1 := by have := HL.out; rw [seedAt, if_neg (by omega)]
                have HX := hide hneg; clear hneg
                go_wp2_with (at_builtin; refine push_ints rfl (.tmp 56) (.tmp 57) rfl rfl (HB.out.ext (Ext.one _ _)) (some ⟨_, 0, none⟩) 1 1 [-1] rfl (ints_lit1 _ (base := 0) (-1) ⟨by omega, by omega⟩ (Nat.zero_le _)).ints (by omega) (by simp; omega) ?_; intro B1 d1 w3 hb3 hg3 hat3)
                go_roundw
                case rel => exact ⟨j + 1, B1, d1, by omega, by go_num, rfl, by rw [HS.out, HX.out]; exact hb3, (HE2.out.alloc _).grown hg3 (fun k hk => (HB.out.block k hk).1)⟩
                case measure => (simp [intOf] <;> omega)
            · have hje : j = L.length := by omega
              subst hje
              have HB := hide hb2; have HE2 := hide hE2; clear hb2 hE2
              go_wp2
              go_ret
              have hb := HB.out
              rw [take_len rfl] at hb
              exact RetI.mk rfl (by rw [HF.out]; exact hb.mono HE1.out.size) (HE1.out.trans HE2.out)
    · go_enter Tryd.func31, Tryd.ntmps31
      go_wp2_with (first | (go_at_call 45; refine (isBracketSize_any _ _).mono ?_; rintro e w' ⟨rfl, rfl⟩) | (go_at_call 44; refine (within_any _ _ _ _).mono ?_; rintro e w' ⟨rfl, rfl⟩))
      go_ret
      exact RetI.mk rfl (by rw [seedBracket, if_neg (fun h => hin (by have := h.2.1; rw [HL.out] at this; exact this))]; exact OwI.nil _ _) (Ext.refl _)
  · go_enter Tryd.func31, Tryd.ntmps31
    go_wp2_with (first | (go_at_call 45; refine (isBracketSize_any _ _).mono ?_; rintro e w' ⟨rfl, rfl⟩))
    go_ret
    exact RetI.mk rfl (by rw [seedBracket, if_neg (fun h => hn h.1)]; exact OwI.nil _ _) (Ext.refl _)

end Go.Proofs.YtbaljgdepicigaaDoor
