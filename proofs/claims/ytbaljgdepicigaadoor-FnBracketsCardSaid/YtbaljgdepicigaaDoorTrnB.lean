/-
  Contracts of the functions on parts: is a tour transitive?
-/
import Derived.Laws.ShiftsVar
import Derived.Deep.QuietTactic
import Derived.Great.Walk
import Derived.Deep.RegionLaw
import Derived.Deep.RegionHeld3
import Derived.Test.YtbaljgdepicigaaDoorBase
import Derived.Test.YtbaljgdepicigaaDoorMgA
import Derived.Test.YtbaljgdepicigaaDoorLib
import Derived.Test.YtbaljgdepicigaaDoorAid
import Derived.Test.YtbaljgdepicigaaDoorStep
import Derived.Test.YtbaljgdepicigaaDoorGrid
import Derived.Test.YtbaljgdepicigaaDoorLibF
import Derived.Test.YtbaljgdepicigaaDoorMgB
import Derived.Test.YtbaljgdepicigaaDoorMathBo
import Derived.Test.YtbaljgdepicigaaDoorPop
import Derived.Test.YtbaljgdepicigaaDoorDblB
import Derived.Test.YtbaljgdepicigaaDoorDblD
import Derived.Test.YtbaljgdepicigaaDoorTour
import Derived.Test.YtbaljgdepicigaaDoorWin
import Derived.Test.YtbaljgdepicigaaDoorWinE
import Derived.Test.YtbaljgdepicigaaDoorSortT
import Derived.Test.YtbaljgdepicigaaDoorDrwA
import Derived.Test.YtbaljgdepicigaaDoorTrnA
namespace Go.Proofs.YtbaljgdepicigaaDoor
open Go.RowKit
set_option linter.unusedVariables false
set_option maxRecDepth 100000

-- words of orders
theorem orderO_nodup (xs : List Int) (n : Nat) : (orderO xs n).Nodup := by
  induction n with
  | zero => simp [orderO]
  | succ n ih =>
    simp only [orderO, insO]
    generalize posO xs (orderO xs n) _ n = p
    have hp : (List.take p (orderO xs n) ++ [(n : Int)] ++ List.drop p (orderO xs n)).Perm ((n : Int) :: orderO xs n) := by
      have := (List.perm_middle (a := (n : Int)) (l₁ := List.take p (orderO xs n)) (l₂ := List.drop p (orderO xs n)))
      rw [List.take_append_drop] at this
      simpa using this
    exact hp.nodup_iff.2 (List.nodup_cons.2 ⟨fun hm => by have := orderO_mem xs n _ hm; omega, ih⟩)
theorem orderO_isPerm (xs : List Int) (n : Nat) : isPerm n (orderO xs n) := ⟨orderO_len xs n, orderO_nodup xs n, fun x hx => by have := orderO_mem xs n x hx; omega⟩
/-- More points come first, then lower numbers. -/
def beforeT (xs : List Int) (a b : Int) : Prop := vO xs b < vO xs a ∨ (vO xs a = vO xs b ∧ a < b)
theorem posT_spec (xs out : List Int) (x : Int) : ∀ k, (∀ j, posO xs out x k ≤ j → j < k → vO xs (out.getD j 0) < x) ∧ (0 < posO xs out x k → ¬ vO xs (out.getD (posO xs out x k - 1) 0) < x) := by
  intro k
  induction k with
  | zero => exact ⟨fun j h1 h2 => by omega, fun h => by simp [posO] at h⟩
  | succ k ih =>
    simp only [posO]
    split
    · rename_i h
      refine ⟨fun j h1 h2 => ?_, ih.2⟩
      by_cases e : j = k
      · subst e; exact h
      · exact ih.1 j h1 (by omega)
    · rename_i h
      exact ⟨fun j h1 h2 => by omega, fun _ => by simpa using h⟩
theorem orderT_sorted (xs : List Int) : ∀ i, (orderO xs i).Pairwise (beforeT xs) := by
  intro i
  induction i with
  | zero => exact List.Pairwise.nil
  | succ i ih =>
    have hl := orderO_len xs i
    have hm := orderO_mem xs i
    obtain ⟨s1, s2⟩ := posT_spec xs (orderO xs i) (vO xs (i : Int)) i
    have s3 := posO_le xs (orderO xs i) (vO xs (i : Int)) i
    simp only [orderO, insO]
    generalize posO xs (orderO xs i) (vO xs (i : Int)) i = p at *
    generalize orderO xs i = o at *
    have hlo : ∀ a ∈ o.take p, vO xs (i : Int) ≤ vO xs a := fun a ha => by
      obtain ⟨j, hj, rfl⟩ := List.getElem_of_mem ha
      rw [List.length_take] at hj
      rw [List.getElem_take]
      have h1 := s2 (by omega)
      have e1 : o.getD (p - 1) 0 = o[p - 1]'(by omega) := by rw [List.getD_eq_getElem?_getD, List.getElem?_eq_getElem (by omega)]; rfl
      rw [e1] at h1
      by_cases e : j = p - 1
      · subst e; omega
      · have := List.pairwise_iff_getElem.1 ih j (p - 1) (by omega) (by omega) (by omega)
        unfold beforeT at this
        omega
    have hhi : ∀ b ∈ o.drop p, vO xs b < vO xs (i : Int) := fun b hb => by
      obtain ⟨j, hj, rfl⟩ := List.getElem_of_mem hb
      rw [List.length_drop] at hj
      rw [List.getElem_drop]
      have h1 := s1 (p + j) (by omega) (by omega)
      have e1 : o.getD (p + j) 0 = o[p + j]'(by omega) := by rw [List.getD_eq_getElem?_getD, List.getElem?_eq_getElem (by omega)]; rfl
      rwa [e1] at h1
    rw [List.append_assoc, List.pairwise_append]
    refine ⟨ih.sublist (List.take_sublist _ _), ?_, ?_⟩
    · rw [List.singleton_append, List.pairwise_cons]
      exact ⟨fun b hb => .inl (hhi b hb), ih.sublist (List.drop_sublist _ _)⟩
    · intro a ha b hb
      have h1 := hlo a ha
      rcases List.mem_append.1 hb with hb | hb
      · simp at hb; subst hb
        have := hm a (List.mem_of_mem_take ha)
        unfold beforeT; omega
      · exact .inl (by have := hhi b hb; omega)
theorem order_noRev {n : Nat} {xs : List Int} (ht : tourOk (n : Int) xs) (h : ∃ o, noRev n xs o) : noRev n xs (orderO (scS xs) n) := by
  obtain ⟨o, ho⟩ := h
  have hl : xs.length = n := by have := tourOk_size ht; omega
  have hp := orderO_isPerm (scS xs) n
  refine ⟨hp, fun i k h1 h2 => ?_⟩
  obtain ⟨a, ha, h3, ea⟩ := perm_get hp (show i < n by omega)
  obtain ⟨b, hb, h4, eb⟩ := perm_get hp h2
  have hne := perm_ne hp (show i < n by omega) h2 (by omega)
  rw [ea, eb] at hne ⊢
  have hs := List.pairwise_iff_getElem.1 (orderT_sorted (scS xs) n) i k (by rw [orderO_len]; omega) (by rw [orderO_len]; omega) h1
  rw [(List.getElem?_eq_some_iff.1 h3).2, (List.getElem?_eq_some_iff.1 h4).2] at hs
  unfold beforeT at hs
  rw [scS_at (by omega), scS_at (by omega)] at hs
  have hd := noRev_distinct ht ho ha hb hne
  exact noRev_beats ht ho ha hb (by omega)
-- (impl.Tour).parts
set_option maxHeartbeats 4000000 in
theorem parts_any (n : Nat) (A : Option Addr) (c : Nat) (xs : List Int) (w : World) (ht : tourOk (n : Int) xs) (h : Ints w A n c xs) :
    Calls Tryd.prog 74 #[.agg #[.int .i64 (n : Int), .slice A n c]] w fun e w' => ∃ (L co : Nat) (Ao : Option Addr), e = .returned (.slice Ao L co) ∧ L ≤ n ∧ (L = n ↔ ∃ o, noRev n xs o) ∧ Ext w w' := by
  have HI := hide h
  have HT := hide ht
  have hs := tourOk_size ht
  have hl := h.len
  have h0 : 1 ≤ n := by omega
  have hn8 : n ≤ 8 := by omega
  have H8 := hide (pow8 hn8)
  obtain ⟨o, ho⟩ : ∃ o, orderO (scS xs) n = o := ⟨_, rfl⟩
  have HPM := hide (show isPerm n o by rw [← ho]; exact orderO_isPerm _ _)
  have HMO := hide (show (∃ o', noRev n xs o') → noRev n xs o from fun h => by rw [← ho]; exact order_noRev HT.out h)
  obtain ⟨W, hW⟩ : ∃ W : World, W = w.alloc (.cells #[.int .i64 (n : Int), .slice A n c] 26) := ⟨_, rfl⟩
  have HE := hide (show Ext w W by rw [hW]; exact Ext.one _ _)
  have B0 := hide (show W.cell? ⟨w.heap.size, 0, none⟩ = some (.int .i64 (n : Int)) by rw [hW]; simp)
  have B1 := hide (show W.cell? ⟨w.heap.size, 1, none⟩ = some (.slice A n c) by rw [hW]; simp)
  have HW := hide hW
  have CBS := hide (byScore_any n A c xs W HT.out (HI.out.ext HE.out))
  rw [ho] at CBS
  have b0 := B0.out
  have b1 := B1.out
  clear h hW ht hs hl ho
  go_enter Tryd.func74, Tryd.ntmps74
  go_wp2_with fail
  rw [← HW.out]
  refine CBS.out.mono ?_
  rintro e w1 ⟨B, d, rfl, hoB, hE1⟩
  have HPL := hide HPM.out.1
  rw [HPL.out] at hoB ⊢
  have HO1 := hide hoB.ints
  have HE1 := hide hE1
  obtain ⟨q0, hq0⟩ : ∃ q : Nat, (n : Int) - 1 = (q : Int) := ⟨n - 1, by omega⟩
  have hwq : IntKind.i64.wrap (q0 : Int) = (q0 : Int) := by rw [IntKind.wrap_i64]; omega
  clear hoB hE1 b0 b1
  go_wp2
  go_loopw [3, 4, 6] (fun l k i wr => ∃ (j K L co : Nat) (Ao : Option Addr) (ol : List Int), j ≤ n ∧ i = .int .i64 ((j : Int) - 1) ∧ l = .slice Ao L co ∧ k = .int .i64 (K : Int) ∧ Hid (OwI wr w1.heap.size Ao L co ol) ∧ Hid (PartT n xs o j K L) ∧ Hid (Ext w1 wr)) (fun _ _ i _ => (intOf i + 1).toNat)
  case atStart => exact ⟨n, 0, 0, 0, none, [], Nat.le_refl _, by rw [hq0], rfl, rfl, hide (OwI.nil _ _), hide (part_start n xs o), hide (Ext.refl _)⟩
  case round =>
    obtain ⟨j, K, L, co, Ao, ol, hj, rfl, rfl, rfl, HO, HP, HER⟩ := hrel
    obtain ⟨wb, rfl⟩ : ∃ wb : World, wb = wr := ⟨_, rfl⟩
    have HEW := hide (HE1.out.trans HER.out)
    have hK := HP.out.lt
    have h8 := H8.out
    have hLn : L ≤ n := by have := HP.out.le; omega
    by_cases hj0 : j = 0
    · subst hj0
      have HEN := hide (part_end HPM.out HP.out)
      rw [show (((0 : Nat) : Int)) - 1 = -1 from rfl]
      go_wp2_with (go_at_call 101; refine (Reverse_any (base := w1.heap.size) Ao L co ol wb HO.out (by omega)).mono ?_; rintro e w3 ⟨rfl, ho3, hg3⟩)
      go_ret
      refine ⟨L, co, Ao, rfl, HEN.out.1, ⟨fun e => ⟨o, HEN.out.2.1 e⟩, fun h => HEN.out.2.2 (HMO.out h)⟩, HE.out.trans (HE1.out.trans (HER.out.grown hg3 (fun k hk => (HO.out.block k hk).1)))⟩
    · obtain ⟨q, hq⟩ : ∃ q, j = q + 1 := ⟨j - 1, by omega⟩
      subst hq
      have hqi : (((q + 1 : Nat) : Int)) - 1 = (q : Int) := by omega
      rw [hqi]
      have hqn : q < n := by omega
      have hqni : (q : Int) < (n : Int) := by omega
      obtain ⟨a, han, hoa, hga⟩ := perm_get HPM.out hqn
      obtain ⟨bo, oo, x, rfl, hbo, hx, wx, hco⟩ := (HO1.out.ext HER.out).get hqn
      rw [hoa] at hx
      obtain rfl : (a : Int) = x := Option.some.inj hx
      have ha64 : a < 64 := by omega
      have KS := hide (show ∀ w', Ext wb w' → (Ext wb w' ∧ w'.cell? ⟨w.heap.size, 0, none⟩ = some (.int .i64 (n : Int)) ∧ w'.cell? ⟨w.heap.size, 1, none⟩ = some (.slice A n c) ∧ w'.cell? ⟨bo, oo + q, none⟩ = some (.int .i64 (a : Int))) from fun w' hh => ⟨hh, (HEW.out.trans hh).get B0.out, (HEW.out.trans hh).get B1.out, hh.get hco⟩)
      have HGA := hide hga
      have hwq1 : IntKind.i64.wrap ((q : Int) - 1) = (q : Int) - 1 := by rw [IntKind.wrap_i64]; omega
      clear hx hoa hga hbo wx hco hqi
      go_wp2
      go_region_held3 (fun w' => Ext wb w' ∧ w'.cell? ⟨w.heap.size, 0, none⟩ = some (.int .i64 (n : Int)) ∧ w'.cell? ⟨w.heap.size, 1, none⟩ = some (.slice A n c) ∧ w'.cell? ⟨bo, oo + q, none⟩ = some (.int .i64 (a : Int)))
        (first | exact KS.out _ (Ext.refl _) | exact KS.out _ (Ext.refl _).drew | exact KS.out _ ((Ext.refl _).drew.trans hE2))
        (first | (go_at_call 100; refine (reach_any n A c xs a _ HT.out (HI.out.ext (HE.out.trans (HEW.out.trans (Ext.refl _).drew))) han).mono ?_; rintro e w2 ⟨R, rfl, hR, hE2⟩))
      have HE2 := hide ((Ext.refl wb).drew.trans hE2)
      have hR8 : R < 256 := by have := hR.lt; omega
      have HST := hide (part_step HT.out HPM.out hqn HGA.out hR HP.out)
      obtain ⟨_, _, _, hco⟩ := KS.out w2 HE2.out
      have hbe : bits .and .i64 ((K : Int) / 2 ^ a) 1 = if K.testBit a then 1 else 0 := by rw [and_bit2 (by omega) (by omega), bitAt_nat]
      have HER2 := hide (HER.out.trans HE2.out)
      have HO2 := hide (HO.out.ext HE2.out)
      clear hR hE2
      cases hb : K.testBit a with
      | true =>
        rw [hb] at hbe HST
        have hbits : bits .and .i64 ((K : Int) / 2 ^ a) 1 = 1 := hbe
        have HPN := hide (HST.out.1 rfl)
        clear hb hbe HST
        go_wp2
        go_roundw
        case rel => exact ⟨q, K, L, co, Ao, ol, by omega, rfl, rfl, rfl, HO2, HPN, HER2⟩
        case measure => (simp [intOf] <;> omega)
      | false =>
        rw [hb] at hbe HST
        have hbits : bits .and .i64 ((K : Int) / 2 ^ a) 1 = 0 := hbe
        have HPN := hide (HST.out.2 rfl)
        obtain ⟨v, hv⟩ : ∃ v, bits .andNot .i64 (R : Int) (K : Int) = v := ⟨_, rfl⟩
        have hv64 : I64 v := by rw [← hv]; exact ⟨bits_lo_i64 _ _ _, bits_hi_i64 _ _ _⟩
        have hor := or_i64 K R (by omega) (by omega)
        have hsz := HER2.out.size
        clear hb hbe HST
        go_wp2_with (at_builtin; refine push_ints (base := w1.heap.size) rfl (.tmp 31) (.tmp 35) rfl rfl (HO2.out.ext (Ext.one _ _)) (some ⟨_, 0, none⟩) 1 1 [v] rfl (ints_lit1 _ (base := 0) v hv64 (Nat.zero_le _)).ints (by omega) (by simp; omega) ?_; intro B5 d5 w5 hb5 hg5 hat5)
        go_roundw
        case rel => exact ⟨q, K ||| R, L + 1, d5, B5, _, by omega, rfl, rfl, rfl, hide hb5, HPN, hide ((HER2.out.alloc _).grown hg5 (fun k hk => (HO2.out.block k hk).1))⟩
        case measure => (simp [intOf] <;> omega)

end Go.Proofs.YtbaljgdepicigaaDoor
