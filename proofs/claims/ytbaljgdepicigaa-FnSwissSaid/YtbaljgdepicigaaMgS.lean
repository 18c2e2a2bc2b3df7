/-
  Several texts of plain lemmas and contracts in one.
-/
import Derived.Deep.RegionLaw
import Derived.Laws.ShiftsVar
import Derived.Test.YtbaljgdepicigaaBase
import Derived.Test.YtbaljgdepicigaaMathA
import Derived.Test.YtbaljgdepicigaaMathD
import Derived.Test.YtbaljgdepicigaaLib
import Derived.Test.YtbaljgdepicigaaAid
import Derived.Test.YtbaljgdepicigaaStep
import Derived.Test.YtbaljgdepicigaaGrid
import Derived.Test.YtbaljgdepicigaaLibF
import Derived.Test.YtbaljgdepicigaaMathB
import Derived.Test.YtbaljgdepicigaaMathU
import Derived.Test.YtbaljgdepicigaaMathW
import Derived.Test.YtbaljgdepicigaaMathZ
import Derived.Test.YtbaljgdepicigaaMathY
import Derived.Test.YtbaljgdepicigaaMathG
import Derived.Test.YtbaljgdepicigaaMathQ
import Derived.Test.YtbaljgdepicigaaMathX
import Derived.Test.YtbaljgdepicigaaMathF
import Derived.Test.YtbaljgdepicigaaMathO
import Derived.Test.YtbaljgdepicigaaMathS
import Derived.Test.YtbaljgdepicigaaMathP
import Derived.Test.YtbaljgdepicigaaMgH
import Derived.Test.YtbaljgdepicigaaPop
import Derived.Test.YtbaljgdepicigaaSeed
import Derived.Test.YtbaljgdepicigaaTour
import Derived.Test.YtbaljgdepicigaaTourB
import Derived.Test.YtbaljgdepicigaaWin
import Derived.Test.YtbaljgdepicigaaCurA
import Derived.Test.YtbaljgdepicigaaDrwA
import Derived.Test.YtbaljgdepicigaaDrwB
import Derived.Test.YtbaljgdepicigaaDrwE
import Derived.Test.YtbaljgdepicigaaSwsA
import Derived.Test.YtbaljgdepicigaaSwissB
import Derived.Test.YtbaljgdepicigaaSortA
import Derived.Test.YtbaljgdepicigaaFillD
import Derived.Test.YtbaljgdepicigaaFillF
import Derived.Test.YtbaljgdepicigaaFillG
import Derived.Test.YtbaljgdepicigaaFillH
import Derived.Test.YtbaljgdepicigaaPlayA
/-
  Contract of the function that draws points and meetings.
-/
namespace Go.Proofs.Ytbaljgdepicigaa
open Go.RowKit
set_option linter.unusedVariables false
set_option maxRecDepth 100000

-- words
/-- Points and meetings come back. -/
def RetSw (w0 w : World) (e : Ending) (w' : World) : Prop := ∃ n xs A c ms B d, isSwiss xs ∧ xs.length = n ∧ MetSt n ms ∧ e = .returned (.tuple #[.slice A n c, .slice B n d]) ∧ OwI w' w.heap.size A n c xs ∧ OwI w' w.heap.size B n d ms ∧ Ext w0 w'
-- spec.l24Draw
set_option maxHeartbeats 4000000 in
theorem l24Draw_any (w0 w : World) (p : Nat) (h : Cur w0 w p) :
    Calls Try.prog 80 #[.pointer (some ⟨p, 0, none⟩)] w (RetSw w0 w) := by
  have hpl := h.lt
  have hold := h.old
  have HC := hide h
  clear h
  have HL5 := hide (OwI.lit w [2, 4, 6, 6, 8] (base := w.heap.size) (by intro x hx; simp at hx; rcases hx with rfl | rfl | rfl | rfl <;> exact ⟨by omega, by omega⟩) (by simp) (Nat.le_refl _))
  have HE1 := hide (Ext.one w (.cells #[.int .i64 2, .int .i64 4, .int .i64 6, .int .i64 6, .int .i64 8] 3))
  go_enter Try.func80, Try.ntmps80
  go_wp2_with fail
  refine (l01Pick_any w0 _ p _ 5 5 [2, 4, 6, 6, 8] (HC.out.ext HE1.out) HL5.out.ints (fun k hk => by have e : w.heap.size = k := Option.some.inj hk; omega) (by omega) (by omega)).mono ?_
  rintro e w1 ⟨x, hx, rfl, hC1, hg1⟩
  have hn : ∃ n : Nat, x = (n : Int) ∧ 2 ≤ n ∧ n ≤ 8 ∧ n % 2 = 0 := by
    simp at hx
    rcases hx with rfl | rfl | rfl | rfl
    · exact ⟨2, rfl, by omega, by omega, by omega⟩
    · exact ⟨4, rfl, by omega, by omega, by omega⟩
    · exact ⟨6, rfl, by omega, by omega, by omega⟩
    · exact ⟨8, rfl, by omega, by omega, by omega⟩
  obtain ⟨n, rfl, hn2, hn8, hne⟩ := hn
  have HC1 := hide hC1
  have hz1 := hg1.size
  simp only [World.size_alloc] at hz1
  clear hC1 hg1 hx
  have hmk := run_make_ints n (by omega)
  have HX := hide hne
  clear hne
  go_wp2
  clear hmk
  have HL := hide (show OwI ((w1.alloc (.cells #[] 3)).alloc (.cells (zeroRow n) 3)) w.heap.size (some ⟨w1.heap.size, 0, none⟩) 0 0 [] from ((ints_lit0 w1 (by omega)).ext (Ext.one _ _)))
  have HM := hide (show OwI ((w1.alloc (.cells #[] 3)).alloc (.cells (zeroRow n) 3)) w.heap.size (some ⟨w1.heap.size + 1, 0, none⟩) n n (List.replicate n 0) from by
    have := OwI.zeros (w1.alloc (.cells #[] 3)) (base := w.heap.size) n (by omega) (by simp; omega)
    rw [World.size_alloc] at this; exact this)
  have HCA := hide (HC1.out.ext ((Ext.one w1 (.cells #[] 3)).alloc (.cells (zeroRow n) 3)))
  go_loopw [5, 7] (fun l i wr => ∃ (j cl : Nat) (Al : Option Addr) (xs : List Int), j ≤ n ∧ i = .int .i64 (j : Int) ∧ l = .slice Al j cl ∧ Hid (∀ x ∈ xs, 0 ≤ x ∧ x ≤ 100) ∧ Hid (OwI wr w.heap.size Al j cl xs) ∧ Hid (Al.map (·.block) ≠ some (w1.heap.size + 1)) ∧ Hid (OwI wr w.heap.size (some ⟨w1.heap.size + 1, 0, none⟩) n n (List.replicate n 0)) ∧ Hid (Cur w0 wr p)) (fun _ i _ => n - (intOf i).toNat)
  case atStart => exact ⟨0, _, _, [], Nat.zero_le _, rfl, rfl, hide (by simp), HL, hide (fun e => by have := Option.some.inj e; simp at this), HM, HCA⟩
  case round =>
    obtain ⟨j, cl, Al, xs, hj, rfl, rfl, HB, HO, HNE, HMr, HCr⟩ := hrel
    by_cases hlt : j < n
    · have hji : (j : Int) < (n : Int) := by omega
      have CB := hide (show Calls Try.prog 91 #[.pointer (some ⟨p, 0, none⟩), .int .i64 5] wr _ from l01Below_any w0 wr p 5 HCr.out (by omega) (by omega))
      go_wp2_with fail
      refine CB.out.mono ?_
      rintro e w2 ⟨v, rfl, hv, hC2, hg2⟩
      have HC2 := hide hC2
      have HO2 := hide (HO.out.grown hg2 (.inl fun e => by have := (HO.out.block p e).1; omega))
      have HM2 := hide (HMr.out.grown hg2 (.inl fun e => by have := (HMr.out.block p e).1; omega))
      have HLI := hide (ints_lit1 w2 (base := 0) (v : Int) ⟨by omega, by omega⟩ (Nat.zero_le _)).ints
      have hzr := (HMr.out.block (w1.heap.size + 1) rfl).2
      have hz2 := hg2.size
      have hsz : j + 1 ≤ 4294967296 := by omega
      clear hC2 hg2 CB
      go_wp2_with (first
        | (at_builtin; (refine push_ints (base := w.heap.size) rfl (.tmp 22) (.tmp 25) rfl rfl (HO2.out.ext (Ext.one w2 _)) (some ⟨w2.heap.size, 0, none⟩) 1 1 [(v : Int)] rfl HLI.out hsz (by simp; omega) ?_; intro A3 c3 w3 hb3 hg3 hat3; have HB3 := hide hb3; have HG3 := hide hg3; have HAT3 := hide hat3; clear hb3 hg3 hat3))
        | fail)
      have HGE := hide (show w2.grownBy w3 (Al.map (·.block)) from grown_trans ((Ext.one w2 (.cells #[.int .i64 (v : Int)] 3)).to_grown _) HG3.out (.inr (.inl rfl)))
      have HM3 := hide (HM2.out.grown HGE.out (.inl fun e => HNE.out e.symm))
      have HC3 := hide (show Cur w0 w3 p from by
        obtain ⟨A9, n9, c9, bs9, i9, hh9, hb9, hB9, hi9, hE9, hp9⟩ := HC2.out
        exact ⟨A9, n9, c9, bs9, i9, hh9, (HGE.out.block p (Array.getElem?_eq_some_iff.1 hb9).1 (fun e => by have := (HO.out.block p e.symm).1; omega)).trans hb9, hB9, hi9, hE9.grown HGE.out (fun q hq => Nat.le_trans hold.1.size (HO.out.block q hq).1), hp9⟩)
      have HNE3 := hide (show A3.map (·.block) ≠ some (w1.heap.size + 1) from fun e => by
        rcases HAT3.out with h | h
        · exact HNE.out (h ▸ e)
        · rw [h] at e
          have e2 := Option.some.inj e
          simp at e2
          omega)
      go_roundw
      case rel => exact ⟨j + 1, c3, A3, xs ++ [(v : Int)], by omega, by go_num, rfl, hide (fun x hx => by
        rcases List.mem_append.1 hx with hx | hx
        · exact HB.out x hx
        · obtain rfl : x = (v : Int) := by simpa using hx
          omega), HB3, HNE3, HM3, HC3⟩
      case measure => (simp [intOf] <;> omega)
    · have hjn : j = n := by omega
      subst hjn
      have HXL := hide HO.out.len
      have hn3 : 3 ≤ j + 1 := by omega
      have CB := hide (show Calls Try.prog 91 #[.pointer (some ⟨p, 0, none⟩), .int .i64 10] wr _ from l01Below_any w0 wr p 10 HCr.out (by omega) (by omega))
      go_wp2_with fail
      refine CB.out.mono ?_
      rintro e w4 ⟨N, rfl, hN, hC4, hg4⟩
      have HC4 := hide hC4
      have HO4 := hide (HO.out.grown hg4 (.inl fun e => by have := (HO.out.block p e).1; omega))
      have HM4 := hide (HMr.out.grown hg4 (.inl fun e => by have := (HMr.out.block p e).1; omega))
      have hz4 := (HM4.out.block (w1.heap.size + 1) rfl).2
      clear hC4 hg4 CB
      go_wp2
      go_loopw [8] (fun i wr => ∃ (k : Nat) (ms : List Int), k ≤ N ∧ i = .int .i64 (k : Int) ∧ Hid (MetSt j ms) ∧ Hid (OwI wr w.heap.size Al j cl xs) ∧ Hid (OwI wr w.heap.size (some ⟨w1.heap.size + 1, 0, none⟩) j j ms) ∧ Hid (Cur w0 wr p)) (fun i _ => (intOf i).toNat)
      case atStart => exact ⟨N, _, Nat.le_refl _, rfl, hide (metSt_zero j), HO4, HM4, HC4⟩
      case round =>
        obtain ⟨k, ms, hk, rfl, HS, HOr, HMs, HCk⟩ := hrel
        by_cases hk0 : 0 < k
        · have hki : (0 : Int) < (k : Int) := by omega
          have CB := hide (l01Below_any w0 wr p j HCk.out (by omega) (by omega))
          go_wp2_with fail
          refine CB.out.mono ?_
          rintro e w5 ⟨a, rfl, ha, hC5, hg5⟩
          have HC5 := hide hC5
          have HO5 := hide (HOr.out.grown hg5 (.inl fun e => by have := (HOr.out.block p e).1; omega))
          have HM5 := hide (HMs.out.grown hg5 (.inl fun e => by have := (HMs.out.block p e).1; omega))
          obtain ⟨q, hq⟩ : ∃ q : Nat, (j : Int) - 1 = (q : Int) := ⟨j - 1, by omega⟩
          have hwq : IntKind.i64.wrap (q : Int) = (q : Int) := by rw [IntKind.wrap_i64]; omega
          have hwa : IntKind.i64.wrap ((a : Int) + 1) = (a : Int) + 1 := by rw [IntKind.wrap_i64]; omega
          have hj0 : ¬ j = 0 := by omega
          clear hC5 hg5 CB
          have CB := hide (l01Below_any w0 w5 p q HC5.out (by omega) (by omega))
          go_wp2_with fail
          refine CB.out.mono ?_
          rintro e w6 ⟨v, rfl, hv, hC6, hg6⟩
          have HC6 := hide hC6
          have HO6 := hide (HO5.out.grown hg6 (.inl fun e => by have := (HO5.out.block p e).1; omega))
          have HM6 := hide (HM5.out.grown hg6 (.inl fun e => by have := (HM5.out.block p e).1; omega))
          have hfl := flip_at (n := j) (k := v) ha (by omega)
          obtain ⟨b, hb⟩ : ∃ b, b = (a + 1 + v) % j := ⟨_, rfl⟩
          rw [← hb] at hfl
          have HFL := hide hfl
          have hfb := HFL.out.1
          have hwv : IntKind.i64.wrap ((a : Int) + 1 + (v : Int)) = (a : Int) + 1 + (v : Int) := by rw [IntKind.wrap_i64]; omega
          clear hC6 hg6 CB hfl hb
          have hbn := HFL.out.2.1
          obtain ⟨ma, hma, hma8⟩ := rowsOk_get HS.out.1 ha
          obtain ⟨mb, hmb, hmb8⟩ := rowsOk_get HS.out.1 hbn
          obtain ⟨b9, o9, x9, e9, hbb, hbl, hx9, wx9, hc, hf⟩ := HM6.out.get ha
          cases e9
          rw [hma] at hx9
          obtain rfl : (ma : Int) = x9 := Option.some.inj hx9
          have hai : (a : Int) < (j : Int) := by omega
          have hbi : (b : Int) < (j : Int) := by omega
          have HO1 := hide (or_shl ma b hma8 (by omega))
          have HO2 := hide (or_shl mb a hmb8 (by omega))
          have HNS := hide (metSt_set HS.out (by omega) HFL.out.2.2 ha hbn hma hmb hma8 hmb8)
          have hpb : w1.heap.size + 1 ≠ p := by omega
          have hwb : w0.heap.size ≤ w1.heap.size + 1 := by have := hold.1.size; omega
          have hsa : I64 ((ma ||| 2 ^ b : Nat) : Int) := nat_i64D (by have := or_lt256 (m := ma) (a := b) hma8 (by omega); omega)
          have hsb : I64 ((mb ||| 2 ^ a : Nat) : Int) := nat_i64D (by have := or_lt256 (m := mb) (a := a) hmb8 (by omega); omega)
          have HS1 := hide (show OwI ((w6.setCell ⟨w1.heap.size + 1, a, none⟩ (.int .i64 ((ma ||| 2 ^ b : Nat) : Int))).drew) w.heap.size (some ⟨w1.heap.size + 1, 0, none⟩) j j (ms.set a ((ma ||| 2 ^ b : Nat) : Int)) from by
            have h9 := HM6.out.store (k := a) rfl ha hsa
            rw [Nat.zero_add] at h9
            exact h9.ext (Ext.refl _).drew)
          have HA1 := hide (show OwI ((w6.setCell ⟨w1.heap.size + 1, a, none⟩ (.int .i64 ((ma ||| 2 ^ b : Nat) : Int))).drew) w.heap.size Al j cl xs from by
            have h9 : OwI (w6.setCell ⟨w1.heap.size + 1, a, none⟩ (.int .i64 ((ma ||| 2 ^ b : Nat) : Int))) w.heap.size Al j cl xs := ⟨HO6.out.ow.keep fun k hk => Below.heap_setCell _ _ _ _ (by rintro rfl; exact HNE.out hk), HO6.out.wf⟩
            exact h9.ext (Ext.refl _).drew)
          have HK1 := hide (show Cur w0 ((w6.setCell ⟨w1.heap.size + 1, a, none⟩ (.int .i64 ((ma ||| 2 ^ b : Nat) : Int))).drew) p from (HC6.out.setCell (q := ⟨w1.heap.size + 1, a, none⟩) hpb hwb _).ext (Ext.refl _).drew)
          have HMB := hide hmb
          simp only [Nat.zero_add] at hc hf
          clear hx9 hma hmb hsa
          go_wp2
          go_region
          all_goals
            go_wp2
            rw [HO1.out]
            obtain ⟨w7, hw7⟩ : ∃ w7 : World, w7 = (w6.setCell ⟨w1.heap.size + 1, a, none⟩ (.int .i64 ((ma ||| 2 ^ b : Nat) : Int))).drew := ⟨_, rfl⟩
            rw [← hw7]
            rw [← hw7] at HS1 HA1 HK1
            obtain ⟨b8, o8, y8, e8, hbb8, hbl8, hy8, wy8, hc8, hf8⟩ := HS1.out.get hbn
            cases e8
            rw [List.getElem?_set_ne HFL.out.2.2, HMB.out] at hy8
            obtain rfl : (mb : Int) = y8 := Option.some.inj hy8
            simp only [Nat.zero_add] at hc8 hf8
            have HS2 := hide (show OwI ((w7.setCell ⟨w1.heap.size + 1, b, none⟩ (.int .i64 ((mb ||| 2 ^ a : Nat) : Int))).drew) w.heap.size (some ⟨w1.heap.size + 1, 0, none⟩) j j ((ms.set a ((ma ||| 2 ^ b : Nat) : Int)).set b ((mb ||| 2 ^ a : Nat) : Int)) from by
              have h9 := HS1.out.store (k := b) rfl hbn hsb
              rw [Nat.zero_add] at h9
              exact h9.ext (Ext.refl _).drew)
            have HA2 := hide (show OwI ((w7.setCell ⟨w1.heap.size + 1, b, none⟩ (.int .i64 ((mb ||| 2 ^ a : Nat) : Int))).drew) w.heap.size Al j cl xs from by
              have h9 : OwI (w7.setCell ⟨w1.heap.size + 1, b, none⟩ (.int .i64 ((mb ||| 2 ^ a : Nat) : Int))) w.heap.size Al j cl xs := ⟨HA1.out.ow.keep fun k hk => Below.heap_setCell _ _ _ _ (by rintro rfl; exact HNE.out hk), HA1.out.wf⟩
              exact h9.ext (Ext.refl _).drew)
            have HK2 := hide (show Cur w0 ((w7.setCell ⟨w1.heap.size + 1, b, none⟩ (.int .i64 ((mb ||| 2 ^ a : Nat) : Int))).drew) p from (HK1.out.setCell (q := ⟨w1.heap.size + 1, b, none⟩) hpb hwb _).ext (Ext.refl _).drew)
            clear hc hf hy8 hw7
            go_wp2
            go_region
            all_goals
              rw [HO2.out]
              go_wp2
              go_roundw
              case rel => exact ⟨k - 1, _, by omega, by rw [show ((k - 1 : Nat) : Int) = (k : Int) - 1 by omega], HNS, HA2, HS2, HK2⟩
              case measure => (simp [intOf] <;> omega)
        · have hki : ¬ (0 : Int) < (k : Int) := by omega
          go_wp2
          go_ret2
          exact ⟨j, xs, Al, cl, ms, _, j, ⟨⟨by have := HXL.out; omega, by have := HXL.out; omega⟩, by rw [HXL.out]; exact HX.out, HB.out⟩, HXL.out, HS.out, rfl, HOr.out, HMs.out, HCk.out.old.1⟩

end Go.Proofs.Ytbaljgdepicigaa
/-
  Plain facts of the law on Swiss rounds: the order, the pairing, the rounds that are played.
-/
namespace Go.Proofs.Ytbaljgdepicigaa
set_option linter.unusedVariables false

-- the order
/-- More points come first, then lower numbers. -/
def beforeO (xs : List Int) (a b : Int) : Prop := vO xs b < vO xs a ∨ (vO xs a = vO xs b ∧ a < b)
theorem posO_spec (xs out : List Int) (x : Int) : ∀ k, (∀ j, posO xs out x k ≤ j → j < k → vO xs (out.getD j 0) < x) ∧ (0 < posO xs out x k → ¬ vO xs (out.getD (posO xs out x k - 1) 0) < x) := by
  intro k
  induction k with
  | zero => exact ⟨fun j h1 h2 => by omega, fun h => by simp [posO] at h⟩
  | succ k ih =>
    simp only [posO]
    split
    · rename_i h
      refine ⟨fun j h1 h2 => ?_, ih.2⟩
      by_cases e : j = k
      · subst e; exact h
      · exact ih.1 j h1 (by omega)
    · rename_i h
      exact ⟨fun j h1 h2 => by omega, fun _ => by simpa using h⟩
theorem orderO_sorted (xs : List Int) : ∀ i, (orderO xs i).Pairwise (beforeO xs) := by
  intro i
  induction i with
  | zero => exact List.Pairwise.nil
  | succ i ih =>
    have hl := orderO_len xs i
    have hm := orderO_mem xs i
    obtain ⟨s1, s2⟩ := posO_spec xs (orderO xs i) (vO xs (i : Int)) i
    have s3 := posO_le xs (orderO xs i) (vO xs (i : Int)) i
    simp only [orderO, insO]
    generalize posO xs (orderO xs i) (vO xs (i : Int)) i = p at *
    generalize orderO xs i = o at *
    have hlo : ∀ a ∈ o.take p, vO xs (i : Int) ≤ vO xs a := fun a ha => by
      obtain ⟨j, hj, rfl⟩ := List.getElem_of_mem ha
      rw [List.length_take] at hj
      rw [List.getElem_take]
      have h1 := s2 (by omega)
      have e1 : o.getD (p - 1) 0 = o[p - 1]'(by omega) := by rw [List.getD_eq_getElem?_getD, List.getElem?_eq_getElem (by omega)]; rfl
      rw [e1] at h1
      by_cases e : j = p - 1
      · subst e; omega
      · have := List.pairwise_iff_getElem.1 ih j (p - 1) (by omega) (by omega) (by omega)
        unfold beforeO at this
        omega
    have hhi : ∀ b ∈ o.drop p, vO xs b < vO xs (i : Int) := fun b hb => by
      obtain ⟨j, hj, rfl⟩ := List.getElem_of_mem hb
      rw [List.length_drop] at hj
      rw [List.getElem_drop]
      have h1 := s1 (p + j) (by omega) (by omega)
      have e1 : o.getD (p + j) 0 = o[p + j]'(by omega) := by rw [List.getD_eq_getElem?_getD, List.getElem?_eq_getElem (by omega)]; rfl
      rwa [e1] at h1
    rw [List.append_assoc, List.pairwise_append]
    refine ⟨ih.sublist (List.take_sublist _ _), ?_, ?_⟩
    · rw [List.singleton_append, List.pairwise_cons]
      exact ⟨fun b hb => .inl (hhi b hb), ih.sublist (List.drop_sublist _ _)⟩
    · intro a ha b hb
      have h1 := hlo a ha
      rcases List.mem_append.1 hb with hb | hb
      · simp at hb; subst hb
        have := hm a (List.mem_of_mem_take ha)
        unfold beforeO; omega
      · exact .inl (by have := hhi b hb; omega)
theorem desc_order (xs : List Int) (n : Nat) : descL (vS xs (orderO xs n)) := by
  unfold descL vS
  rw [List.pairwise_map]
  exact (orderO_sorted xs n).imp fun {a b} h => by unfold beforeO vO at h; omega
theorem order_perm (xs : List Int) (n : Nat) : (orderO xs n).Perm (upto n) := by
  have h1 := ordOf_orderO xs n
  have h2 := ordOf_upto n
  refine (List.perm_ext_iff_of_nodup h1.1 h2.1).2 fun a => ⟨fun h => ?_, fun h => ?_⟩
  · have := h1.2.2.1 a h
    obtain ⟨i, rfl⟩ : ∃ i : Nat, a = (i : Int) := ⟨a.toNat, by omega⟩
    exact h2.2.2.2 i (by omega)
  · have := h2.2.2.1 a h
    obtain ⟨i, rfl⟩ : ∃ i : Nat, a = (i : Int) := ⟨a.toNat, by omega⟩
    exact h1.2.2.2 i (by omega)
theorem wS_upto (xs p : List Int) (n : Nat) : wS xs p (upto n) = sumTo (drop1 xs p) n := by
  induction n with
  | zero => rfl
  | succ n ih =>
    rw [upto_snoc]
    unfold wS at ih ⊢
    rw [List.map_append, List.sum_append, ih]
    simp [sumTo]
theorem wS_order {xs p : List Int} {n : Nat} (h : xs.length = n) : wS xs p (orderO xs n) = floatV xs p := by
  rw [wS_perm (order_perm xs n), wS_upto]; unfold floatV; rw [h]
-- the pairing
/-- What the law asks of one pairing. -/
structure SwOk (n : Nat) (xs ms : List Int) : Prop where
  cnt : pairB xs ms = decide (0 < countP xs ms)
  lf : pairB xs ms = decide (0 ≤ leastP xs ms)
  isp : pairB xs ms = true → isPairing xs ms (pairV xs ms)
  flt : pairB xs ms = true → ¬ floatOf xs (pairV xs ms) < leastP xs ms
theorem pairB_mem {xs ms : List Int} (h : pairB xs ms = true) : pairO xs ms = some (pairV xs ms) := by
  unfold pairB at h
  unfold pairV
  cases e : pairO xs ms with
  | none => rw [e] at h; cases h
  | some p => rfl
theorem sw_ok {n : Nat} {xs ms : List Int} (h : swissOk xs ms) (hl : xs.length = n) : SwOk n xs ms := by
  have hml : ms.length = n := by rw [h.2.1, hl]
  have hp := pairings_perm h
  have hO : pairO xs ms = (pairingsO (orderO xs ms.length) ms).head? := if_pos h
  have hnn : ∀ p ∈ pairingsO (upto ms.length) ms, 0 ≤ floatV xs p := fun p _ => floatV_nonneg h.1
  have hB : pairB xs ms = decide (pairingsO (upto ms.length) ms ≠ []) := by
    unfold pairB
    rw [hO, Bool.eq_iff_iff, decide_eq_true_eq]
    have e := hp.length_eq
    cases h1 : pairingsO (orderO xs ms.length) ms with
    | nil => rw [h1] at e; have := List.eq_nil_of_length_eq_zero e; simp [this]
    | cons a l => rw [h1] at e; simp; intro h2; rw [h2] at e; simp at e
  have hF : ∀ p, pairO xs ms = some p → isPairing xs ms p ∧ leastP xs ms ≤ floatV xs p := fun p e => by
    obtain ⟨_, hm, hok⟩ := pairO_ok e
    refine ⟨⟨h, by rw [← h.2.1]; exact hok, fun a ha => pairO_new e (by rw [hok.1] at ha; exact ha)⟩, ?_⟩
    unfold leastP
    rw [if_pos h]
    rcases leastF_is _ hnn with ⟨e2, _⟩ | ⟨_, h2⟩
    · rw [e2] at hp; rw [hp.symm.eq_nil] at hm; cases hm
    · exact h2 p (hp.mem_iff.2 hm)
  refine ⟨?_, ?_, fun hb => (hF _ (pairB_mem hb)).1, fun hb => ?_⟩
  · rw [hB, decide_eq_decide]
    unfold countP
    rw [if_pos h]
    constructor
    · intro h1
      have := List.length_pos_iff.2 h1
      omega
    · intro h1 e; rw [e] at h1; simp at h1
  · rw [hB, decide_eq_decide]
    unfold leastP
    rw [if_pos h]
    rcases leastF_is _ hnn with ⟨e2, e3⟩ | ⟨⟨q, hq, e3⟩, h2⟩
    · rw [e3]; simp [e2]
    · exact ⟨fun _ => by rw [← e3]; exact hnn q hq, fun _ e => by rw [e] at hq; cases hq⟩
  · obtain ⟨h1, h2⟩ := hF _ (pairB_mem hb)
    unfold floatOf
    rw [if_pos ⟨h.1, h1.2.1⟩]
    unfold floatV at h2
    omega
/-! ### Nobody has met -/
theorem mtP_zero (n : Nat) (a b : Int) : mtP (List.replicate n 0) a b = false := by
  have e : (List.replicate n (0 : Int)).getD a.toNat 0 = 0 := by
    rw [List.getD_eq_getElem?_getD]
    by_cases h : a.toNat < n
    · rw [List.getElem?_replicate, if_pos h]; rfl
    · rw [List.getElem?_replicate, if_neg h]; rfl
  unfold mtP bitAt
  rw [e]
  simp
/-- What the law asks of the pairing when nobody has met. -/
structure FreeOk (n : Nat) (xs : List Int) : Prop where
  ok : pairB xs (List.replicate n 0) = true
  len : (pairV xs (List.replicate n 0)).length = n
  cnt : countP xs (List.replicate n 0) = (dfac n : Int)
  fst : (pairV xs (List.replicate n 0)).getD ((orderO xs n).getD 0 0).toNat 0 = (orderO xs n).getD 1 0
  flt : floatOf xs (pairV xs (List.replicate n 0)) = leastP xs (List.replicate n 0)
theorem dfac_pos : ∀ n : Nat, n % 2 = 0 → 0 < dfac n
  | 0, _ => by simp [dfac]
  | 1, h => by simp at h
  | n + 2, h => Nat.mul_pos (by omega) (dfac_pos n (by omega))
theorem free_ok {n : Nat} {xs : List Int} (hx : isSwiss xs) (hl : xs.length = n) : FreeOk n xs := by
  have hs := metSt_swiss (metSt_zero n) hx hl
  have S := sw_ok hs hl
  have hml : (List.replicate n (0 : Int)).length = n := by simp
  have ho := ordOf_orderO xs n
  have h1 := hx.1
  have h2 := hx.2.1
  have hA := allL_pairings hs
  rw [hml] at hA
  have hcnt : countP xs (List.replicate n 0) = (dfac n : Int) := by
    rw [countP_all hs, hml, allL_free (mtP_zero n) (n + 1) _ _ (by rw [ho.2.1]; omega), ho.2.1]
  obtain ⟨p, hp1, hp2, hp3⟩ := first_alt (xs := xs) (mtP_zero n) (n + 1) (orderO xs n) (List.replicate n 0) (by rw [ho.2.1]; omega) (by rw [ho.2.1, ← hl]; exact h2)
    (fun x h => by have := ho.2.2.1 x h; rw [hml]; omega) ho.1 (desc_order xs n)
  have hO : pairO xs (List.replicate n 0) = some p := by
    unfold pairO
    rw [if_pos hs, hml, ← hA]; exact hp1
  have hV : pairV xs (List.replicate n 0) = p := by unfold pairV; rw [hO]; rfl
  have hB : pairB xs (List.replicate n 0) = true := by unfold pairB; rw [hO]; rfl
  have hok := (pairO_ok hO).2.2
  rw [hml] at hok
  refine ⟨hB, by rw [hV]; exact hok.1, hcnt, by rw [hV]; exact hp3 (by rw [ho.2.1]; omega), ?_⟩
  have hnl := S.flt hB
  rw [hV] at hnl ⊢
  have hfo : floatOf xs p = floatV xs p := by unfold floatOf floatV; rw [if_pos ⟨hx, by rw [hl]; exact hok⟩]
  rw [hfo] at hnl ⊢
  rw [wS_order hl] at hp2
  have hpm := pairings_perm hs
  rw [hml] at hpm
  have hle : floatV xs p ≤ leastP xs (List.replicate n 0) := by
    unfold leastP
    rw [if_pos hs, hml]
    rcases leastF_is (f := floatV xs) (pairingsO (upto n) (List.replicate n 0)) (fun q _ => floatV_nonneg hx) with ⟨e2, _⟩ | ⟨⟨q, hq, e3⟩, _⟩
    · exfalso
      have h3 := (pairO_ok hO).2.1
      rw [hml] at h3
      rw [e2] at hpm; rw [hpm.symm.eq_nil] at h3; cases h3
    · rw [← e3, hp2, ← wS_order hl]
      have hq2 := hpm.mem_iff.1 hq
      rw [← hA] at hq2
      exact wS_ge (n + 1) _ _ q hq2 (fun x h => by have := ho.2.2.1 x h; rw [hml]; omega) ho.1 (desc_order xs n)
  omega
-- the rounds
theorem getD_app_lt {rds : List (List Int)} {p : List Int} {i : Nat} (h : i < rds.length) : (rds ++ [p]).getD i [] = rds.getD i [] := by
  rw [List.getD_eq_getElem?_getD, List.getElem?_append_left h, List.getD_eq_getElem?_getD]
theorem stW_round {xs : List Int} : ∀ (r i : Nat), i < (stW xs r).1.rds.length → pairO (stW xs i).1.pts (stW xs i).1.met = some ((stW xs r).1.rds.getD i []) ∧
    (stW xs (i + 1)).1.pts = ptsP xs ((stW xs r).1.rds.getD i []) (stW xs i).1.pts xs.length ∧ (stW xs (i + 1)).1.met = metP ((stW xs r).1.rds.getD i []) (stW xs i).1.met xs.length := by
  intro r
  induction r with
  | zero => intro i h; simp [stW] at h
  | succ r ih =>
    intro i h
    by_cases hg : (stW xs r).2 = true
    · cases hp : pairO (stW xs r).1.pts (stW xs r).1.met with
      | none => rw [stW_none hg hp 0] at h ⊢; exact ih i h
      | some p =>
        rw [stW_some hg hp] at h ⊢
        have hlen := (stW_len xs r).2.2.2 hg
        simp only [List.length_append, List.length_singleton] at h
        by_cases e : i = (stW xs r).1.rds.length
        · have e2 : ((stW xs r).1.rds ++ [p]).getD i [] = p := by rw [List.getD_eq_getElem?_getD, e]; simp
          have e3 : i = r := by omega
          simp only [e2]
          subst e3
          rw [stW_some hg hp]
          exact ⟨hp, rfl, rfl⟩
        · simp only [getD_app_lt (show i < (stW xs r).1.rds.length by omega)]
          exact ih i (by omega)
    · have e : stW xs (r + 1) = ((stW xs r).1, false) := by simp only [stW, if_neg hg]
      rw [e] at h ⊢
      exact ih i h
/-- How play ends. -/
theorem stW_end {xs : List Int} (r : Nat) : (stW xs r).1 = (stW xs (stW xs r).1.rds.length).1 ∧ ((stW xs r).2 = true → (stW xs r).1.rds.length = r) ∧
    (¬ (stW xs r).2 = true → pairO (stW xs r).1.pts (stW xs r).1.met = none) := by
  induction r with
  | zero => exact ⟨rfl, fun _ => rfl, fun h => absurd rfl h⟩
  | succ r ih =>
    obtain ⟨h1, h2, h3⟩ := ih
    by_cases hg : (stW xs r).2 = true
    · cases hp : pairO (stW xs r).1.pts (stW xs r).1.met with
      | none =>
        rw [stW_none hg hp 0]
        exact ⟨h1, fun h => (by cases h), fun _ => hp⟩
      | some p =>
        have e := stW_some hg hp
        have hl : (stW xs (r + 1)).1.rds.length = r + 1 := by rw [e]; simp [h2 hg]
        rw [hl]
        exact ⟨rfl, fun _ => rfl, fun h => by rw [e] at h; exact absurd rfl h⟩
    · have e : stW xs (r + 1) = ((stW xs r).1, false) := by simp only [stW, if_neg hg]
      rw [e]
      exact ⟨h1, fun h => (by cases h), fun _ => h3 hg⟩
theorem sum_sumTo (l : List Int) : l.sum = sumTo (fun a => l.getD a 0) l.length := by
  have key : ∀ k, k ≤ l.length → (l.take k).sum = sumTo (fun a => l.getD a 0) k := by
    intro k
    induction k with
    | zero => intro _; rfl
    | succ k ih =>
      intro h
      have hk : l[k]? = some (l.getD k 0) := by rw [List.getD_eq_getElem?_getD, List.getElem?_eq_getElem (by omega)]; rfl
      rw [take_snoc_of hk, List.sum_append, ih (by omega)]
      simp [sumTo]
  have := key l.length (Nat.le_refl _)
  rwa [List.take_length] at this
theorem bts_one {s : Int} {xs : List Int} (ht : tourOk s xs) {a b : Nat} (ha : a < xs.length) (hb : b < xs.length) (hne : a ≠ b) : bts xs a b ↔ ¬ bts xs b a := by
  rcases Nat.lt_or_gt_of_ne hne with h | h
  · have := (ht.2.2.2 b hb).1 a h
    constructor
    · intro h1 h2; exact this.1 h2 h1
    · intro h1; exact Decidable.not_not.1 fun h2 => h1 (this.2 h2)
  · exact (ht.2.2.2 a ha).1 b h
theorem sumTo_half (p : Nat → Nat) : ∀ (n : Nat) (f : Nat → Int), (∀ a, a < n → p a < n) → (∀ a, a < n → p (p a) = a) → (∀ a, a < n → p a ≠ a) → (∀ a, a < n → f a + f (p a) = 1) → 2 * sumTo f n = n := by
  intro n f h1 h2 h3 h4
  have e1 := sumTo_pairs f p n h1 h2 h3
  have e2 := sumTo_pairs (fun a => f (p a)) p n h1 h2 h3
  have e3 := sumTo_pairs (fun _ => (1 : Int)) p n h1 h2 h3
  have e4 : sumTo (fun a => if a < p a then f a + f (p a) else 0) n = sumTo (fun a => if a < p a then 1 else 0) n := sumTo_congr fun a ha => by
    by_cases e : a < p a
    · rw [if_pos e, if_pos e]; exact h4 a ha
    · rw [if_neg e, if_neg e]
  have e5 : sumTo (fun a => if a < p a then (1 : Int) + 1 else 0) n = sumTo (fun a => if a < p a then 1 else 0) n + sumTo (fun a => if a < p a then 1 else 0) n := by
    rw [← sumTo_add]
    exact sumTo_congr fun a ha => by by_cases e : a < p a <;> simp [e]
  have e6 : sumTo (fun _ => (1 : Int)) n = n := by
    have : ∀ k : Nat, sumTo (fun _ => (1 : Int)) k = k := by
      intro k
      induction k with
      | zero => rfl
      | succ k ih => simp only [sumTo, ih]; omega
    exact this n
  rw [e5, e6] at e3
  rw [e4] at e1
  omega
theorem ptsP_sum {s : Int} {xs p pts : List Int} (ht : tourOk s xs) (hp : pairsOk xs.length p) (hl : pts.length = xs.length) : 2 * (ptsP xs p pts xs.length).sum = 2 * pts.sum + xs.length := by
  have hq : ∀ a, a < xs.length → opp p a < xs.length ∧ opp p (opp p a) = a ∧ opp p a ≠ a := fun a ha => by
    obtain ⟨h1, h2, h3⟩ := hp.2 a (by rw [hp.1]; exact ha)
    unfold opp
    exact ⟨by omega, by rw [h3]; simp, by omega⟩
  have hh := sumTo_half (opp p) xs.length (fun a => if bts xs a (opp p a) then 1 else 0) (fun a ha => (hq a ha).1) (fun a ha => (hq a ha).2.1) (fun a ha => (hq a ha).2.2) (fun a ha => by
    show (if bts xs a (opp p a) then (1 : Int) else 0) + (if bts xs (opp p a) (opp p (opp p a)) then 1 else 0) = 1
    rw [(hq a ha).2.1]
    have := bts_one ht ha (hq a ha).1 (Ne.symm (hq a ha).2.2)
    by_cases e : bts xs a (opp p a)
    · rw [if_pos e, if_neg (this.1 e)]; rfl
    · rw [if_neg e, if_pos (Decidable.not_not.1 fun h => e (this.2 h))]; rfl)
  rw [sum_sumTo, sum_sumTo pts, ptsP_len, hl]
  have e1 : sumTo (fun a => (ptsP xs p pts xs.length).getD a 0) xs.length = sumTo (fun a => pts.getD a 0 + (if bts xs a (opp p a) then 1 else 0)) xs.length := sumTo_congr fun a ha => by
    rw [List.getD_eq_getElem?_getD, ptsP_get _ _ _ _ (by omega)]
    unfold opp
    by_cases e : bts xs a (p.getD a 0).toNat
    · rw [if_pos ⟨ha, e⟩, if_pos e]; rfl
    · rw [if_neg (fun h => e h.2), if_neg e]; simp
  rw [e1, sumTo_add]
  omega
/-- Points stay small. -/
theorem stW_pts {xs : List Int} : ∀ r : Nat, ∀ x ∈ (stW xs r).1.pts, 0 ≤ x ∧ x ≤ r := by
  intro r
  induction r with
  | zero => intro x hx; simp [stW] at hx; omega
  | succ r ih =>
    by_cases hg : (stW xs r).2 = true
    · cases hp : pairO (stW xs r).1.pts (stW xs r).1.met with
      | none => rw [stW_none hg hp 0]; intro x hx; have := ih x hx; omega
      | some p =>
        rw [stW_some hg hp]
        intro x hx
        simp only [ptsP, List.mem_map, List.mem_range] at hx
        obtain ⟨a, ha, rfl⟩ := hx
        have := ih ((stW xs r).1.pts.getD a 0) (by rw [List.getD_eq_getElem?_getD, List.getElem?_eq_getElem ha]; exact List.getElem_mem ha)
        split <;> omega
    · have e : stW xs (r + 1) = ((stW xs r).1, false) := by simp only [stW, if_neg hg]
      rw [e]; intro x hx; have := ih x hx; omega
theorem stW_sum {s : Int} {xs : List Int} (ht : tourOk s xs) : ∀ r : Nat, 2 * (stW xs r).1.pts.sum = (stW xs r).1.rds.length * xs.length := by
  intro r
  induction r with
  | zero =>
    simp only [stW, List.length_nil]
    have : ∀ k : Nat, (List.replicate k (0 : Int)).sum = 0 := by intro k; induction k with
      | zero => rfl
      | succ k ih => rw [List.replicate_succ, List.sum_cons, ih]; rfl
    rw [this]; simp
  | succ r ih =>
    by_cases hg : (stW xs r).2 = true
    · cases hp : pairO (stW xs r).1.pts (stW xs r).1.met with
      | none => rw [stW_none hg hp 0]; exact ih
      | some p =>
        rw [stW_some hg hp]
        have hok := (pairO_ok hp).2.2
        rw [(stW_len xs r).2.1] at hok
        have h1 := ptsP_sum ht hok (stW_len xs r).1
        simp only [List.length_append, List.length_singleton]
        rw [h1, ih, Int.natCast_add, Int.add_mul]
        simp
    · have e : stW xs (r + 1) = ((stW xs r).1, false) := by simp only [stW, if_neg hg]
      rw [e]; exact ih

end Go.Proofs.Ytbaljgdepicigaa
/-
  Plain facts on one round of play by Swiss rounds, as the law asks for them.
-/
namespace Go.Proofs.Ytbaljgdepicigaa
open Go.RowKit
set_option linter.unusedVariables false

-- words
/-- One round: each has another opponent, new to him. -/
structure RndF (n : Nat) (p met pts : List Int) : Prop where
  pl : p.length = n
  ml : met.length = n
  ql : pts.length = n
  at' : ∀ a, a < n → ∃ b m q : Nat, p[a]? = some (b : Int) ∧ b < n ∧ b ≠ a ∧ p[b]? = some (a : Int) ∧ p.getD a 0 = (b : Int) ∧ met.getD a 0 = (m : Int) ∧ m < 256 ∧ m.testBit b = false ∧ pts.getD a 0 = (q : Int) ∧ q ≤ 100
theorem getD_some {l : List Int} {a : Nat} (h : a < l.length) : l[a]? = some (l.getD a 0) := by
  rw [List.getD_eq_getElem?_getD, List.getElem?_eq_getElem h]; rfl
theorem sw_rnd {xs : List Int} {n r i : Nat} (hl : xs.length = n) (hi : i < (stW xs r).1.rds.length) : ∃ p, (stW xs r).1.rds[i]? = some p ∧ RndF n p (stW xs i).1.met (stW xs i).1.pts ∧
    (stW xs (i + 1)).1.pts = ptsP xs p (stW xs i).1.pts n ∧ (stW xs (i + 1)).1.met = metP p (stW xs i).1.met n := by
  obtain ⟨h1, h2, h3⟩ := stW_round r i hi
  have hp : (stW xs r).1.rds[i]? = some ((stW xs r).1.rds.getD i []) := by
    rw [List.getD_eq_getElem?_getD, List.getElem?_eq_getElem hi]; rfl
  refine ⟨_, hp, ?_, by rw [← hl]; exact h2, by rw [← hl]; exact h3⟩
  obtain ⟨hs1, hs2, _⟩ := stW_len xs i
  have hnew := @pairO_new _ _ _ h1
  obtain ⟨hsw, _, hpo⟩ := pairO_ok h1
  rw [hs2, hl] at hpo
  rw [hs2, hl] at hnew
  rw [hl] at hs1 hs2
  generalize (stW xs r).1.rds.getD i [] = p at *
  generalize (stW xs i).1.met = met at *
  generalize (stW xs i).1.pts = pts at *
  refine ⟨hpo.1, hs2, hs1, fun a ha => ?_⟩
  obtain ⟨⟨k1, k2⟩, k3, k4⟩ := hpo.2 a (by rw [hpo.1]; exact ha)
  have k5 := getD_some (l := p) (a := a) (by rw [hpo.1]; exact ha)
  have k6 := getD_some (l := met) (a := a) (by rw [hs2]; exact ha)
  have k7 := getD_some (l := pts) (a := a) (by rw [hs1]; exact ha)
  have k8 := hnew ha
  obtain ⟨b, hb⟩ : ∃ b : Nat, p.getD a 0 = (b : Int) := ⟨(p.getD a 0).toNat, by omega⟩
  rw [hb] at k1 k2 k3 k4 k5 k8
  rw [Int.toNat_natCast] at k4 k8
  have hbn : b < n := by omega
  have k9 := getD_some (l := p) (a := b) (by rw [hpo.1]; exact hbn)
  rw [k4] at k9
  have hm := hsw.2.2.1 _ (List.mem_of_getElem? k6)
  have hn8 := hsw.1.1.2
  have hpw := pow_small (n := met.length) (by have := hsw.2.1; omega)
  have hq := hsw.1.2.2 _ (List.mem_of_getElem? k7)
  obtain ⟨m, hmm⟩ : ∃ m : Nat, met.getD a 0 = (m : Int) := ⟨(met.getD a 0).toNat, by omega⟩
  obtain ⟨q, hqq⟩ : ∃ q : Nat, pts.getD a 0 = (q : Int) := ⟨(pts.getD a 0).toNat, by omega⟩
  rw [hmm] at k8 hm
  rw [hqq] at hq
  rw [bitAt_iff] at k8
  exact ⟨b, m, q, k5, hbn, fun e => k3 (by rw [e]), k9, hb, hmm, by omega, by simpa using k8, hqq, by omega⟩
theorem sw_last (xs : List Int) (r : Nat) : (stW xs (stW xs r).1.rds.length).1.pts = (stW xs r).1.pts ∧ (stW xs (stW xs r).1.rds.length).1.met = (stW xs r).1.met ∧
    ((stW xs r).1.rds.length = r ∨ pairB (stW xs r).1.pts (stW xs r).1.met = false) := by
  obtain ⟨h1, h2, h3⟩ := stW_end (xs := xs) r
  refine ⟨by rw [← h1], by rw [← h1], ?_⟩
  by_cases hg : (stW xs r).2 = true
  · exact .inl (h2 hg)
  · right; unfold pairB; rw [h3 hg]; rfl

end Go.Proofs.Ytbaljgdepicigaa
