/-
  The reference's brackets: each number below n! names one order.
-/
import Derived.Deep.RegionLaw
import Derived.Laws.ShiftsVar
import Derived.Test.YtbaljgdepicigaaBase
import Derived.Test.YtbaljgdepicigaaMathA
import Derived.Test.YtbaljgdepicigaaMathD
import Derived.Test.YtbaljgdepicigaaLib
import Derived.Test.YtbaljgdepicigaaAid
import Derived.Test.YtbaljgdepicigaaStep
import Derived.Test.YtbaljgdepicigaaGrid
import Derived.Test.YtbaljgdepicigaaLibF
import Derived.Test.YtbaljgdepicigaaMathB
import Derived.Test.YtbaljgdepicigaaMathU
import Derived.Test.YtbaljgdepicigaaMathS
import Derived.Test.YtbaljgdepicigaaMathP
import Derived.Test.YtbaljgdepicigaaMathR
import Derived.Test.YtbaljgdepicigaaMathW
import Derived.Test.YtbaljgdepicigaaMathZ
import Derived.Test.YtbaljgdepicigaaMathY
import Derived.Test.YtbaljgdepicigaaSeed
import Derived.Test.YtbaljgdepicigaaTour
import Derived.Test.YtbaljgdepicigaaTourB
import Derived.Test.YtbaljgdepicigaaBrack
import Derived.Test.YtbaljgdepicigaaBrackB
import Derived.Test.YtbaljgdepicigaaDblB
import Derived.Test.YtbaljgdepicigaaPop
import Derived.Test.YtbaljgdepicigaaWin
import Derived.Test.YtbaljgdepicigaaWinB
import Derived.Test.YtbaljgdepicigaaWinC
import Derived.Test.YtbaljgdepicigaaRangeA
import Derived.Test.YtbaljgdepicigaaFillA
import Derived.Test.YtbaljgdepicigaaFillB
import Derived.Test.YtbaljgdepicigaaFillC
import Derived.Test.YtbaljgdepicigaaFillD
import Derived.Test.YtbaljgdepicigaaFillE
import Derived.Test.YtbaljgdepicigaaFillF
import Derived.Test.YtbaljgdepicigaaFillG
import Derived.Test.YtbaljgdepicigaaRangeB
import Derived.Test.YtbaljgdepicigaaExtA
import Derived.Test.YtbaljgdepicigaaExtB
import Derived.Test.YtbaljgdepicigaaExtC
namespace Go.Proofs.Ytbaljgdepicigaa
open Go.RowKit
set_option linter.unusedVariables false
set_option maxRecDepth 100000

-- words
def fac : Nat → Nat
  | 0 => 1
  | n + 1 => fac n * (n + 1)
theorem fac_le {n : Nat} (h : n ≤ 4) : fac n ≤ 24 := by
  rcases (by omega : n = 0 ∨ n = 1 ∨ n = 2 ∨ n = 3 ∨ n = 4) with rfl | rfl | rfl | rfl | rfl <;> decide
def turnL (n : Nat) : List Int := (List.range n).map fun (i : Nat) => ((i : Int) + 1) % (n : Int)
theorem turnL_len (n : Nat) : (turnL n).length = n := by simp [turnL]
theorem turnL_take {n k : Nat} (h : k < n) : (turnL n).take (k + 1) = (turnL n).take k ++ [((k : Int) + 1) % (n : Int)] := take_snoc_of (by simp [turnL, h])
def namesL : Nat → Nat → List Int → List Int
  | 0, _, _ => []
  | k + 1, ix, left => left.getD (ix % (k + 1)) 0 :: namesL k (ix / (k + 1)) (left.eraseIdx (ix % (k + 1)))
-- spec.l11Count
theorem l11Count_any (n : Nat) (w : World) (h : n ≤ 4) :
    Calls Try.prog 111 #[.int .i64 (n : Int)] w fun e w' => e = .returned (.int .i64 (fac n : Int)) ∧ w = w' := by
  go_enter Try.func111, Try.ntmps111
  go_wp2
  go_loopw [3, 4] (fun k i wr => ∃ j : Nat, 1 ≤ j ∧ (j ≤ n ∨ j = 1) ∧ i = .int .i64 ((j + 1 : Nat) : Int) ∧ k = .int .i64 (fac j : Int) ∧ w = wr) (fun _ i _ => n + 1 - (intOf i).toNat)
  case atStart => exact ⟨1, Nat.le_refl _, .inr rfl, rfl, rfl, rfl⟩
  case round =>
    obtain ⟨j, hj1, hj, rfl, rfl, rfl⟩ := hrel
    by_cases hlt : j + 1 ≤ n
    · have hle : (((j + 1 : Nat) : Int) ≤ (n : Int)) := by omega
      have hf := fac_le (n := j) (by omega)
      have hf2 : (fac j : Int) * ((j : Int) + 1) = (fac (j + 1) : Int) := by simp [fac]
      have hf3 := fac_le (n := j + 1) (by omega)
      go_wp2
      go_roundw
      case rel => exact ⟨j + 1, by omega, .inl hlt, by go_num, rfl, trivial⟩
      case measure => (simp [intOf] <;> omega)
    · have hle : ¬ (((j + 1 : Nat) : Int) ≤ (n : Int)) := by omega
      have HF := hide (show fac j = fac n by
        rcases hj with hj | rfl
        · rw [show n = j by omega]
        · rcases (by omega : n = 0 ∨ n = 1) with rfl | rfl <;> rfl)
      go_wp2
      go_ret
      exact ⟨ret_int (by rw [HF.out]), rfl⟩
-- spec.l11Turn
theorem l11Turn_any (n : Nat) (w : World) (h : n ≤ 4) :
    Calls Try.prog 162 #[.int .i64 (n : Int)] w (RetI w (turnL n)) := by
  go_enter Try.func162, Try.ntmps162
  go_wp2
  have HL0 := hide (ints_lit0 w (Nat.le_refl _))
  go_loopw [3, 4] (fun o i wr => ∃ (k : Nat) (Ao : Option Addr) (co : Nat), k ≤ n ∧ i = .int .i64 (k : Int) ∧ o = .slice Ao k co ∧ OwI wr w.heap.size Ao k co ((turnL n).take k) ∧ Ext w wr) (fun _ i _ => n - (intOf i).toNat)
  case atStart => exact ⟨0, _, _, Nat.zero_le _, rfl, rfl, by simpa using HL0.out, Ext.one _ _⟩
  case round =>
    obtain ⟨k, Ao, co, hk, rfl, rfl, ho, hE⟩ := hrel
    by_cases hlt : k < n
    · have hki : (k : Int) < (n : Int) := by omega
      have HT := hide (turnL_take hlt)
      have hzr := hE.size
      have HO := hide ho
      have HE := hide hE
      have hm1 := Int.emod_nonneg ((k : Int) + 1) (show (n : Int) ≠ 0 by omega)
      have hm2 := Int.emod_lt_of_pos ((k : Int) + 1) (show (0 : Int) < (n : Int) by omega)
      have wx : I64 (((k : Int) + 1) % (n : Int)) := ⟨by omega, by omega⟩
      have HLX := hide (show Ints (wr.alloc (.cells #[.int .i64 (((k : Int) + 1) % (n : Int))] 3)) (some ⟨wr.heap.size, 0, none⟩) 1 1 [((k : Int) + 1) % (n : Int)] from (ints_lit1 wr (base := 0) _ wx (Nat.zero_le _)).ints)
      have hk1 : k + 1 ≤ 4294967296 := by omega
      have hn0 : ¬ (n : Int) = 0 := by omega
      clear ho hE hm1 hm2
      go_wp2_with (at_builtin; refine push_ints rfl (.tmp 11) (.tmp 16) rfl rfl (HO.out.ext (Ext.one _ _)) (some ⟨wr.heap.size, 0, none⟩) 1 1 _ rfl HLX.out hk1 (by simp <;> omega) ?_; intro A5 c5 w5 hb5 hg5 hat5; rw [← HT.out] at hb5; have HB5 := hide hb5; have HE5 := hide (((HE.out.trans (Ext.one _ _))).grown hg5 (fun q hq => (HO.out.block q hq).1)); clear hb5 hg5 hat5)
      go_roundw
      case rel => exact ⟨k + 1, A5, c5, by omega, by go_num, rfl, HB5.out, HE5.out⟩
      case measure => (simp [intOf] <;> omega)
    · have hkn : k = n := by omega
      subst hkn
      rw [take_len (turnL_len k)] at ho
      go_wp2
      go_ret
      exact ⟨Ao, co, by rw [turnL_len]; rfl, by rwa [turnL_len], hE⟩
-- spec.l11Names
theorem run_head_int (A : Option Addr) (n c h : Nat) (hn : h ≤ n) (hc : n ≤ c) (r : Int) (hr : r = (h : Int)) (w : World) :
    (Instr.sliceAt 23 (.slice A n c) none (some (.int .i64 r)) none).run Try.prog w = .ok (.slice A h c) w := by
  subst hr
  have ht : Try.prog.underlying 23 = some (.slice 3) := Try.underlying23
  obtain ⟨i, hi, hs⟩ := Option.map_eq_some_iff.1 size_int
  have e : Try.prog.elem 23 = 3 := by simp [Program.elem, ht]
  have ht' : Try.prog.underlying 23 = some (.slice (Try.prog.elem 23)) := by rw [e]; exact ht
  rw [run_sliceAt_slice w 23 _ _ _ _ ht', run_slice_h w 23 A n c ht' .i64 (h : Int) (by omega) (by omega)]
  rw [e]
  simp [sizeOf, typeInfo, hi, hs, sliced]
  intro _
  cases A with
  | none => rfl
  | some a => simp [Addr.add]
set_option maxHeartbeats 1000000 in
theorem l11Names_any (n ix : Nat) (w : World) (h : n ≤ 4) (hx : ix ≤ 24) :
    Calls Try.prog 113 #[.int .i64 (n : Int), .int .i64 (ix : Int)] w (RetI w (namesL n ix (turnL n))) := by
  go_enter Try.func113, Try.ntmps113
  go_wp2_with (go_at_call 162; refine (l11Turn_any n _ h).mono ?_; rintro e w1 ⟨B, d, rfl, hoB, hE1⟩; rw [turnL_len] at hoB ⊢; have HL0 := hide (ints_lit0 w1 (Nat.le_refl _)); have HB := hide hoB; have HE := hide hE1; clear hoB hE1)
  go_loopw [1, 5, 6, 7] (fun ixv lv ov kv wr => ∃ (j k : Nat) (Al : Option Addr) (cl : Nat) (lf : List Int) (Ao : Option Addr) (m co : Nat) (o : List Int),
      k ≤ n ∧ j ≤ 24 ∧ m + k = n ∧ ixv = .int .i64 (j : Int) ∧ kv = .int .i64 (k : Int) ∧ lv = .slice Al k cl ∧ ov = .slice Ao m co ∧ Hid (OwI wr w.heap.size Al k cl lf) ∧ Hid (OwI wr w.heap.size Ao m co o) ∧
      Hid (∀ q, Ao.map (·.block) = some q → Al.map (·.block) ≠ some q) ∧ Hid (o ++ namesL k j lf = namesL n ix (turnL n)) ∧ Hid (Ext w wr)) (fun _ _ _ k _ => (intOf k).toNat)
  case atStart => exact ⟨ix, n, B, d, turnL n, _, 0, 0, [], Nat.le_refl _, hx, by omega, rfl, rfl, rfl, rfl, hide (HB.out.ext (Ext.one _ _)), hide (HL0.out.mono HE.out.size), hide (fun q hq e => by cases hq; have h9 := (HB.out.block _ e).2; exact absurd h9 (Nat.lt_irrefl _)), hide rfl, hide (HE.out.trans (Ext.one _ _))⟩
  case round =>
    obtain ⟨j, k, Al, cl, lf, Ao, m, co, o, hk, hj, hmk, rfl, rfl, rfl, rfl, HLf, HO, HNE, HEQ, HW⟩ := hrel
    by_cases hlt : 0 < k
    · have hki : (0 : Int) < (k : Int) := by omega
      obtain ⟨i, hi⟩ : ∃ i, j % k = i := ⟨_, rfl⟩
      obtain ⟨jj, hjj⟩ : ∃ jj, j / k = jj := ⟨_, rfl⟩
      have hik : i < k := by rw [← hi]; exact Nat.mod_lt _ hlt
      have hj2 : jj ≤ 24 := by rw [← hjj]; exact Nat.le_trans (Nat.div_le_self _ _) hj
      have hmod : (j : Int) % (k : Int) = (i : Int) := by rw [← hi, Int.natCast_emod]
      have hdiv : (j : Int) / (k : Int) = (jj : Int) := by rw [← hjj, Int.natCast_ediv]
      have hk0 : ¬ (k : Int) = 0 := by omega
      obtain ⟨bl, ol, x, rfl, hbl, hbh, hxx, wx, hcx, _⟩ := HLf.out.get hik
      have HX := hide hxx
      have HNM := hide (show namesL k j lf = x :: namesL (k - 1) jj (lf.eraseIdx i) by
        obtain ⟨k', rfl⟩ : ∃ k', k = k' + 1 := ⟨k - 1, by omega⟩
        rw [namesL, hi, hjj, Nat.add_sub_cancel, List.getD_eq_getElem?_getD, hxx]; rfl)
      clear hxx hi hjj
      have HLX := hide (show Ints (wr.alloc (.cells #[.int .i64 x] 3)) (some ⟨wr.heap.size, 0, none⟩) 1 1 [x] from (ints_lit1 wr (base := 0) x wx (Nat.zero_le _)).ints)
      have hm1 : m + 1 ≤ 4294967296 := by omega
      have hzr := HW.out.size
      go_wp2_with (first
        | (at_builtin; refine push_ints rfl (.tmp 23) (.tmp 28) rfl rfl (HO.out.ext (Ext.one _ _)) (some ⟨wr.heap.size, 0, none⟩) 1 1 [x] rfl HLX.out hm1 (by simp <;> omega) ?_; intro A5 c5 w5 hb5 hg5 hat5; have HB5 := hide hb5; have HG5 := hide hg5; have HAT := hide hat5; clear hb5 hg5 hat5)
        | fail)
      have hlc := HLf.out.le
      have hlm := HLf.out.max
      have HE5 := hide (((HW.out.trans (Ext.one wr (.cells #[.int .i64 x] 3)))).grown HG5.out (fun q hq => (HO.out.block q hq).1))
      have HL5 := hide ((HLf.out.ints.ext (Ext.one wr (.cells #[.int .i64 x] 3))).grown HG5.out (.inl fun e => HNE.out bl e.symm rfl))
      have HOL5 := hide (show OwI ((w5.alloc (.cells #[] 3)).drew) w5.heap.size (some ⟨w5.heap.size, 0, none⟩) 0 0 [] from (ints_lit0 w5 (Nat.le_refl _)).ext ((Ext.refl _).drew))
      have hwp1 : IntKind.i64.wrap ((i : Int) + 1) = (i : Int) + 1 := by rw [IntKind.wrap_i64]; omega
      have hhd := run_head_int (some ⟨bl, ol, none⟩) k cl i (by omega) hlc (i : Int) rfl
      have htl := run_tail_int (some ⟨bl, ol, none⟩) k cl (i + 1) (by omega) ((i : Int) + 1) (by omega)
      have HMD := hide (show Ints ((w5.alloc (.cells #[] 3)).drew) (some ⟨bl, ol, none⟩) i cl (lf.take i) from (HL5.out.take (by omega)).ext ((Ext.one _ _).drew))
      have HTL := hide (HL5.out.tail (k := i + 1) (by omega))
      have HE5d := hide (show Ext w5 ((w5.alloc (.cells #[] 3)).drew) from (Ext.one _ _).drew)
      generalize tailA (some ⟨bl, ol, none⟩) cl (i + 1) = TB at *
      have hsz1 : 0 + i ≤ 4294967296 := by omega
      have hsz2 : i + (k - (i + 1)) ≤ 4294967296 := by omega
      go_region_law (first
        | (refine step_push_ints rfl (.tmp 30) (.tmp 33) rfl rfl HOL5.out (some ⟨bl, ol, none⟩) i cl _ rfl HMD.out hsz1 (by simp) ?_; intro B6 d6 w6 hb6 hg6 hat6; rw [Nat.zero_add, List.nil_append] at hb6; have HB6 := hide hb6; have HX6 := hide (HE5d.out.grown hg6 (fun q hq => (HOL5.out.block q hq).1)); clear hb6 hg6 hat6)
        | (refine step_push_ints rfl (.tmp 34) (.tmp 38) rfl rfl HB6.out TB (k - (i + 1)) (cl - (i + 1)) _ rfl (HTL.out.ext HX6.out) hsz2 HX6.out.size ?_; intro B7 d7 w7 hb7 hg7 hat7; have HB7 := hide hb7; have HX7 := hide (HX6.out.grown hg7 (fun q hq => (HB6.out.block q hq).1)); clear hb7 hg7 hat7))
      all_goals (
        have hkk : i + (k - (i + 1)) = k - 1 := by omega
        have HE7 := hide (HE5.out.trans HX7.out)
        have HB7' := hide (show OwI w7 w5.heap.size B7 (k - 1) d7 (lf.eraseIdx i) by rw [List.eraseIdx_eq_take_drop_succ, ← hkk]; exact HB7.out)
        have hz5 := HE5.out.size
        have HNE7 := hide (show ∀ q, A5.map (·.block) = some q → B7.map (·.block) ≠ some q from fun q hq e => by have h1 := (HB5.out.block q hq).2; have h2 := (HB7'.out.block q e).1; omega)
        go_simp
        go_wp2
        go_roundw
        case rel => exact ⟨jj, k - 1, B7, d7, lf.eraseIdx i, A5, m + 1, c5, o ++ [x], by omega, hj2, by omega, rfl, by go_num, rfl, rfl, hide (HB7'.out.mono (by omega)), hide (HB5.out.ext HX7.out), HNE7, hide (by rw [← HEQ.out, HNM.out, List.append_assoc]; rfl), HE7⟩
        case measure => (simp [intOf] <;> omega))
    · have hk0 : k = 0 := by omega
      subst hk0
      rw [show m = n by omega] at HO
      have HE0 := hide (show o = namesL n ix (turnL n) by have := HEQ.out; simpa [namesL] using this)
      have hln := HO.out.len
      have hle : ¬ (0 : Int) < ((0 : Nat) : Int) := by omega
      rw [show m = n by omega]
      go_wp2
      go_ret
      rw [← HE0.out]
      exact ⟨Ao, co, by rw [hln]; rfl, by rw [hln]; exact HO.out, HW.out⟩

end Go.Proofs.Ytbaljgdepicigaa
