/-
  Contracts of the functions that order players by points.
-/
import Derived.Laws.ShiftsVar
import Derived.Deep.QuietTactic
import Derived.Great.Walk
import Derived.Deep.RegionWith
import Derived.Test.YtbaljgdepicigaaBase
import Derived.Test.YtbaljgdepicigaaMathA
import Derived.Test.YtbaljgdepicigaaMathD
import Derived.Test.YtbaljgdepicigaaLib
import Derived.Test.YtbaljgdepicigaaAid
import Derived.Test.YtbaljgdepicigaaStep
import Derived.Test.YtbaljgdepicigaaGrid
import Derived.Test.YtbaljgdepicigaaLibF
import Derived.Test.YtbaljgdepicigaaMathB
import Derived.Test.YtbaljgdepicigaaMathU
import Derived.Test.YtbaljgdepicigaaMathG
import Derived.Test.YtbaljgdepicigaaMathX
import Derived.Test.YtbaljgdepicigaaMathS
import Derived.Test.YtbaljgdepicigaaMathO
import Derived.Test.YtbaljgdepicigaaSwiss
import Derived.Test.YtbaljgdepicigaaDblB
namespace Go.Proofs.Ytbaljgdepicigaa
open Go.RowKit
set_option linter.unusedVariables false

-- cmp.Compare
def ctI (a b : Int) : Int := if a < b then -1 else if b < a then 1 else 0
theorem ctI_neg (a b : Int) : ctI a b < 0 ↔ a < b := by unfold ctI; split <;> (try split) <;> omega
theorem isNaN_any (a : Int) (w : World) : Calls Try.prog 190 #[.int .i64 a] w fun e w' => e = .returned (.bool false) ∧ w = w' := by
  go_enter Try.func190, Try.ntmps190
  go_wp2
  go_ret
  exact ⟨by simp, rfl⟩
theorem Compare_any (a b : Int) (w : World) : Calls Try.prog 156 #[.int .i64 a, .int .i64 b] w fun e w' => e = .returned (.int .i64 (ctI a b)) ∧ w = w' := by
  by_cases h1 : a < b
  · have HV := hide (show ctI a b = -1 from if_pos h1)
    go_enter Try.func156, Try.ntmps156
    go_wp2_with (go_at_call 190; refine (isNaN_any _ _).mono ?_; rintro e w' ⟨rfl, rfl⟩)
    go_ret
    exact ⟨ret_int HV.out.symm, rfl⟩
  · by_cases h2 : b < a
    · have HV := hide (show ctI a b = 1 by unfold ctI; rw [if_neg h1, if_pos h2])
      go_enter Try.func156, Try.ntmps156
      go_wp2_with (go_at_call 190; refine (isNaN_any _ _).mono ?_; rintro e w' ⟨rfl, rfl⟩)
      go_ret
      exact ⟨ret_int HV.out.symm, rfl⟩
    · have HV := hide (show ctI a b = 0 by unfold ctI; rw [if_neg h1, if_neg h2])
      go_enter Try.func156, Try.ntmps156
      go_wp2_with (go_at_call 190; refine (isNaN_any _ _).mono ?_; rintro e w' ⟨rfl, rfl⟩)
      go_ret
      exact ⟨ret_int HV.out.symm, rfl⟩
-- impl.OrderBy$1
theorem byPoints_any (A : Option Addr) (n c : Nat) (xs : List Int) (pb : Nat) (i k : Nat) (w : World) (h : Ints w A n c xs) (hb : w.cell? ⟨pb, 0, none⟩ = some (.slice A n c)) (hi : i < n) (hk : k < n) :
    Calls Try.prog 155 #[.int .i64 (i : Int), .int .i64 (k : Int), .pointer (some ⟨pb, 0, none⟩)] w fun e w' => e = .returned (.int .i64 (ctI (vO xs (k : Int)) (vO xs (i : Int)))) ∧ Qt w w' := by
  obtain ⟨b, o, x, rfl, _, hx, _, hcx⟩ := h.get hi
  obtain ⟨b', o', y, e, _, hy, _, hcy⟩ := h.get hk
  cases e
  have HX := hide (show vO xs (i : Int) = x by simp [vO, List.getD, hx])
  have HY := hide (show vO xs (k : Int) = y by simp [vO, List.getD, hy])
  have hii : (i : Int) < (n : Int) := by omega
  have hki : (k : Int) < (n : Int) := by omega
  clear hx hy h
  rw [HX.out, HY.out]
  go_enter Try.func155, Try.ntmps155
  go_wp2
  go_quiet ((go_at_call 156; exact Calls.quiet_of ((Compare_any _ _ _).mono fun _ _ ⟨h1, h2⟩ => ⟨h1, by subst h2; exact Qt.refl _⟩)))
  go_wp2
  go_ret
  exact ⟨rfl, (Qt.refl _).drewN _⟩
-- slices.insertionSortCmpFunc
theorem insSort_any {base : Nat} (A : Option Addr) (n c : Nat) (Ax : Option Addr) (nx cx : Nat) (xs : List Int) (pb : Nat) (w0 w : World) (h0 : 1 ≤ n) (hn8 : n ≤ 65536) (hx : Ints w0 Ax nx cx xs) (hb : w0.cell? ⟨pb, 0, none⟩ = some (.slice Ax nx cx)) (hnx : n ≤ nx) (hE : Ext w0 w) (hbase : w0.heap.size ≤ base) (ho : OwI w base A n c (upto n)) :
    Calls Try.prog 200 #[.slice A n c, .int .i64 0, .int .i64 (n : Int), .func (.func 155) #[] #[.pointer (some ⟨pb, 0, none⟩)]] w fun e w' => e = .returned (.tuple #[]) ∧ OwI w' base A n c (orderO xs n) ∧ w.grownBy w' (A.map (·.block)) := by
  have HO := hide ho
  have HE := hide hE
  have HC := hide (fun (w' : World) (i k : Nat) (hE' : Ext w0 w') (hi : i < n) (hk : k < n) => byPoints_any Ax nx cx xs pb i k w' (hx.ext hE') (hE'.get hb) (by omega) (by omega))
  have H0 := hide (show orderO xs 1 ++ (upto n).drop 1 = upto n by
    rw [show orderO xs 1 = [0] from rfl]
    have h9 := upto_drop (n := n) (i := 0) (by omega)
    rw [List.drop_zero] at h9
    rw [h9]
    rfl)
  clear ho hE hx hb
  go_enter Try.func200, Try.ntmps200
  go_wp2
  go_loopw [8] (fun i wr => ∃ k : Nat, 1 ≤ k ∧ k ≤ n ∧ i = .int .i64 (k : Int) ∧ Hid (OwI wr base A n c (orderO xs k ++ (upto n).drop k)) ∧ w.grownBy wr (A.map (·.block))) (fun i _ => n - (intOf i).toNat)
  case atStart => exact ⟨1, by omega, h0, rfl, hide (by rw [H0.out]; exact HO.out), grown_refl _ _⟩
  case round =>
    obtain ⟨k, hk1, hk, rfl, HK, hg⟩ := hrel
    have HG := hide hg
    clear hg
    by_cases hlt : k < n
    · have hki : (k : Int) < (n : Int) := by omega
      have HK2 := hide (show OwI wr base A n c (midO xs n k k) by rw [← midO_start xs hlt]; exact HK.out)
      clear HK
      go_wp2
      go_loopw [9] (fun i wr => ∃ j : Nat, j ≤ k ∧ i = .int .i64 (j : Int) ∧ Hid (posO xs (orderO xs k) (vO xs (k : Int)) j = posO xs (orderO xs k) (vO xs (k : Int)) k) ∧ Hid (OwI wr base A n c (midO xs n k j)) ∧ w.grownBy wr (A.map (·.block))) (fun i _ => (intOf i).toNat)
      case atStart => exact ⟨k, Nat.le_refl _, rfl, hide rfl, HK2, HG.out⟩
      case round =>
        obtain ⟨j, hj, rfl, HP, HJ, hg⟩ := hrel
        have HG2 := hide hg
        clear hg
        have HEW := hide (show Ext w0 wr from HE.out.grown HG2.out (fun q e => by have := (HJ.out.block q e).1; omega))
        by_cases hj0 : j = 0
        · subst hj0
          have HEN := hide (show midO xs n k 0 = orderO xs (k + 1) ++ (upto n).drop (k + 1) by rw [← midO_end xs n k, ← HP.out]; rfl)
          go_wp2
          go_quiet (fail)
          obtain ⟨w2, hw2⟩ : ∃ w2 : World, w2 = wr.drewN nq := ⟨_, rfl⟩
          have HE2 := hide (show Ext wr w2 by rw [hw2]; exact (Ext.refl _).drewN _)
          rw [← hw2]
          clear hw2
          go_wp2
          go_roundw
          case rel => exact ⟨k + 1, by omega, by omega, by go_num, hide (by rw [← HEN.out]; exact HJ.out.ext HE2.out), HG2.out.trans (HE2.out.to_grown _)⟩
          case measure => (simp [intOf] <;> omega)
        · obtain ⟨q, hq⟩ : ∃ q, j = q + 1 := ⟨j - 1, by omega⟩
          have hjm : (j : Int) - 1 = (q : Int) := by omega
          have hqk : q < k := by omega
          obtain ⟨b, o, x, rfl, hb1, hb2, hx, wx, hcx, hfx⟩ := HJ.out.get (k := j) (by omega)
          obtain ⟨b', o', y, e, _, _, hy, wy, hcy, hfy⟩ := HJ.out.get (k := q) (by omega)
          cases e
          rw [midO_at xs hj] at hx
          cases hx
          rw [show (midO xs n k j)[q]? = (orderO xs k)[q]? by rw [hq]; exact midO_before xs (by omega)] at hy
          have hyb := orderO_mem xs k y (List.mem_of_getElem? hy)
          obtain ⟨p, rfl⟩ : ∃ p : Nat, y = (p : Int) := ⟨y.toNat, by omega⟩
          have HSW := hide (show ((midO xs n k j).set j (p : Int)).set q (k : Int) = midO xs n k q by rw [hq]; exact midO_swap xs hy)
          have hst := HP.out
          rw [hq] at hst
          simp only [posO] at hst
          rw [show (orderO xs k).getD q 0 = (p : Int) by simp [List.getD, hy]] at hst
          have CQ := hide (fun (w' : World) (hE' : Ext wr w') => HC.out w' k p (HEW.out.trans hE') hlt (by omega))
          have hjn : j < n := by omega
          have hqn : q < n := by omega
          have hji : (j : Int) < (n : Int) := by omega
          have hqi : (q : Int) < (n : Int) := by omega
          have hj0i : (0 : Int) < (j : Int) := by omega
          have hj0n : 0 < j := by omega
          have hjq : ¬ j = q := by omega
          have hqj : ¬ q = j := by omega
          have hne : ¬ o + j = o + q := by omega
          have hne2 : ¬ o + q = o + j := by omega
          have HQ := hide hq
          clear hq hy hj0
          by_cases hv : vO xs (p : Int) < vO xs (k : Int)
          · rw [if_pos hv] at hst
            have HST := hide hst
            have hct : ctI (vO xs (p : Int)) (vO xs (k : Int)) < 0 := (ctI_neg _ _).2 hv
            clear hst hv
            generalize ctI (vO xs (p : Int)) (vO xs (k : Int)) = Cv at *
            go_wp2
            have d0 := after_cell hcx
            have d1 := after_cell hcy
            have CA := hide (show ∀ e : After wr, Calls Try.prog 155 #[.int .i64 (k : Int), .int .i64 (p : Int), .pointer (some ⟨pb, 0, none⟩)] e.val fun r w'' => r = .returned (.int .i64 Cv) ∧ Ext e.val w'' from fun e => (CQ.out e.val e.property).mono fun _ _ h => ⟨h.1, h.2.ext⟩)
            refine wp_region_ext (by kernel_rfl) (by kernel_rfl) ?_
            repeat (go_big_quiet_step ((go_at_call 155; exact after_call (CA.out _))))
            refine wpQuiet_nil ?_
            rintro w2 ⟨⟨w2, hE5⟩, rfl⟩
            have HE2 := hide (show Ext wr w2 from hE5)
            clear d0 d1 hE5
            have hdx := HE2.out.get hcx
            have hdy := HE2.out.get hcy
            have HJ2 := hide (HJ.out.ext HE2.out)
            clear hcx hcy hfx hfy
            obtain ⟨_, _, _, e, _, _, _, _, _, hfx⟩ := HJ2.out.get (k := j) hjn
            cases e
            obtain ⟨_, _, _, e, _, _, _, _, _, hfy⟩ := HJ2.out.get (k := q) hqn
            cases e
            have HO1 := hide ((HJ2.out.store rfl (k := j) hjn wy).store rfl (k := q) hqn wx)
            go_wp2
            go_region
            have HG3 := hide ((((HG2.out.trans (HE2.out.to_grown _)).trans (grown_setCell w2 ⟨b, o + j, none⟩ (.int .i64 (p : Int)))).trans (grown_setCell _ ⟨b, o + q, none⟩ (.int .i64 (k : Int)))).trans (grown_drew _ (some b)))
            have HO2 := hide (HO1.out.ext (Ext.refl _).drew)
            clear HO1
            go_wp2
            go_roundw
            case rel => exact ⟨q, by omega, rfl, HST, hide (by rw [← HSW.out]; exact HO2.out), HG3.out⟩
            case measure => (simp [intOf] <;> (have := HQ.out; omega))
          · rw [if_neg hv] at hst
            have hct : ¬ ctI (vO xs (p : Int)) (vO xs (k : Int)) < 0 := fun hh => hv ((ctI_neg _ _).1 hh)
            have HEN := hide (show midO xs n k j = orderO xs (k + 1) ++ (upto n).drop (k + 1) by rw [← midO_end xs n k, ← hst, HQ.out])
            clear hst hv
            generalize ctI (vO xs (p : Int)) (vO xs (k : Int)) = Cv at *
            go_wp2
            have d0 := after_cell hcx
            have d1 := after_cell hcy
            have CA := hide (show ∀ e : After wr, Calls Try.prog 155 #[.int .i64 (k : Int), .int .i64 (p : Int), .pointer (some ⟨pb, 0, none⟩)] e.val fun r w'' => r = .returned (.int .i64 Cv) ∧ Ext e.val w'' from fun e => (CQ.out e.val e.property).mono fun _ _ h => ⟨h.1, h.2.ext⟩)
            refine wp_region_ext (by kernel_rfl) (by kernel_rfl) ?_
            repeat (go_big_quiet_step ((go_at_call 155; exact after_call (CA.out _))))
            refine wpQuiet_nil ?_
            rintro w2 ⟨⟨w2, hE5⟩, rfl⟩
            have HE2 := hide (show Ext wr w2 from hE5)
            clear d0 d1 hE5
            go_wp2
            go_roundw
            case rel => exact ⟨k + 1, by omega, by omega, by go_num, hide (by rw [← HEN.out]; exact HJ.out.ext HE2.out), HG2.out.trans (HE2.out.to_grown _)⟩
            case measure => (simp [intOf] <;> omega)
    · have hke : k = n := by omega
      subst hke
      have HV := hide (show orderO xs k ++ (upto k).drop k = orderO xs k by rw [List.drop_of_length_le (by rw [upto_len]; exact Nat.le_refl _), List.append_nil])
      go_wp2
      exact Go.Great.bodyPost_end0 rfl rfl ⟨rfl, by rw [← HV.out]; exact HK.out, HG.out⟩
-- stable
theorem stable_any {base : Nat} (A : Option Addr) (n c : Nat) (Ax : Option Addr) (nx cx : Nat) (xs : List Int) (pb : Nat) (w0 w : World) (h0 : 1 ≤ n) (hn8 : n ≤ 8) (hx : Ints w0 Ax nx cx xs) (hb : w0.cell? ⟨pb, 0, none⟩ = some (.slice Ax nx cx)) (hnx : n ≤ nx) (hE : Ext w0 w) (hbase : w0.heap.size ≤ base) (ho : OwI w base A n c (upto n)) :
    Calls Try.prog 189 #[.slice A n c, .int .i64 (n : Int), .func (.func 155) #[] #[.pointer (some ⟨pb, 0, none⟩)]] w fun e w' => e = .returned (.tuple #[]) ∧ OwI w' base A n c (orderO xs n) ∧ w.grownBy w' (A.map (·.block)) := by
  have CI := hide (insSort_any A n c Ax nx cx xs pb w0 w h0 (by omega) hx hb hnx hE hbase ho)
  have h20 : ¬ (20 : Int) ≤ (n : Int) := by omega
  have h20b : ¬ (20 : Int) < (n : Int) := by omega
  clear hx hb hE ho
  go_enter Try.func189, Try.ntmps189
  go_wp2
  go_loopw [7, 8] (fun a b wr => a = .int .i64 0 ∧ b = .int .i64 20 ∧ w = wr) (fun _ _ _ => 0)
  case atStart => exact ⟨rfl, rfl, rfl⟩
  case round =>
    obtain ⟨rfl, rfl, rfl⟩ := hrel
    go_wp2_with (go_at_call 200; refine CI.out.mono ?_; rintro e w2 ⟨rfl, hO, hg⟩)
    have HO := hide hO
    have HG := hide hg
    clear hO hg
    go_loopw [6] (fun a wr => a = .int .i64 20 ∧ w2 = wr) (fun _ _ => 0)
    case atStart => exact ⟨rfl, rfl⟩
    case round =>
      obtain ⟨rfl, rfl⟩ := hrel
      go_wp2
      exact Go.Great.bodyPost_end0 rfl rfl ⟨rfl, HO.out, HG.out⟩
theorem sortStable_any {base : Nat} (A : Option Addr) (n c : Nat) (Ax : Option Addr) (nx cx : Nat) (xs : List Int) (pb : Nat) (w0 w : World) (h0 : 1 ≤ n) (hn8 : n ≤ 8) (hx : Ints w0 Ax nx cx xs) (hb : w0.cell? ⟨pb, 0, none⟩ = some (.slice Ax nx cx)) (hnx : n ≤ nx) (hE : Ext w0 w) (hbase : w0.heap.size ≤ base) (ho : OwI w base A n c (upto n)) :
    Calls Try.prog 154 #[.slice A n c, .func (.func 155) #[] #[.pointer (some ⟨pb, 0, none⟩)]] w fun e w' => e = .returned (.tuple #[]) ∧ OwI w' base A n c (orderO xs n) ∧ w.grownBy w' (A.map (·.block)) := by
  have CI := hide (stable_any A n c Ax nx cx xs pb w0 w h0 hn8 hx hb hnx hE hbase ho)
  clear hx hb hE ho
  go_enter Try.func154, Try.ntmps154
  go_wp2_with (go_at_call 189; refine CI.out.mono ?_; rintro e w2 ⟨rfl, hO, hg⟩)
  exact Go.Great.bodyPost_end0 rfl rfl ⟨rfl, hO, hg⟩
-- impl.OrderBy
theorem orderBy_any (A : Option Addr) (n c : Nat) (xs : List Int) (w : World) (h : Ints w A n c xs) (h0 : 1 ≤ n) (hn8 : n ≤ 8) :
    Calls Try.prog 87 #[.slice A n c] w (RetI w (orderO xs n)) := by
  have HI := hide h
  have hmf : ∀ (fn : Fn) (first cap : Array Value) (w : World), (Instr.makeFunc fn first cap).run Try.prog w = .ok (.func fn first cap) w := fun _ _ _ _ => rfl
  have h40 : ¬ (40 : Int) < (n : Int) := by omega
  obtain ⟨W, hW⟩ : ∃ W : World, W = w.alloc (.cells #[.slice A n c] 23) := ⟨_, rfl⟩
  have HE := hide (show Ext w W by rw [hW]; exact Ext.one _ _)
  have B0 := hide (show W.cell? ⟨w.heap.size, 0, none⟩ = some (.slice A n c) by rw [hW]; simp)
  have HW := hide hW
  clear h hW
  go_enter Try.func87, Try.ntmps87
  go_wp2_with fail
  rw [← HW.out]
  refine (indices_any n _ (by omega)).mono ?_
  rintro e w1 ⟨B, d, rfl, hoB, hE1⟩
  rw [upto_len] at hoB ⊢
  have CS := hide (sortStable_any (base := W.heap.size) B n d A n c xs w.heap.size W w1 h0 hn8 (HI.out.ext HE.out) B0.out (Nat.le_refl _) hE1 (Nat.le_refl _) hoB)
  have HB := hide (fun q e => (hoB.block q e).1)
  have HE1 := hide hE1
  clear hoB hE1
  go_wp2_with (go_at_call 154; refine CS.out.mono ?_; rintro e w2 ⟨rfl, hO, hg⟩)
  go_ret
  exact RetI.mk rfl (hO.mono HE.out.size) (HE.out.trans (HE1.out.grown hg HB.out))
-- spec.l09Order
theorem l09_any (A : Option Addr) (n c : Nat) (xs : List Int) (w : World) (h : Ints w A n c xs) (hn8 : n ≤ 8) :
    Calls Try.prog 99 #[.slice A n c] w (RetI w (orderO xs n)) := by
  have HI := hide h
  have HL := hide h.len
  have hle := h.le
  have hmx := h.max
  clear h
  go_enter Try.func99, Try.ntmps99
  go_wp2
  go_loopw [3, 11] (fun l i wr => ∃ (k co : Nat) (Ao : Option Addr), k ≤ n ∧ i = .int .i64 (k : Int) ∧ l = .slice Ao k co ∧ Hid (OwI wr w.heap.size Ao k co (orderO xs k)) ∧ Ext w wr) (fun _ i _ => n - (intOf i).toNat)
  case atStart => exact ⟨0, 0, _, Nat.zero_le _, rfl, rfl, hide (ints_lit0 w (Nat.le_refl _)), Ext.one _ _⟩
  case round =>
    obtain ⟨k, co, Ao, hk, rfl, rfl, HO, hE⟩ := hrel
    have HER := hide hE
    clear hE
    by_cases hlt : k < n
    · obtain ⟨b, off, x, rfl, hbl, hx, wx, hc⟩ := (HI.out.ext HER.out).get hlt
      have HVX := hide (show vO xs (k : Int) = x by simp [vO, List.getD, hx])
      have hki : (k : Int) < (n : Int) := by omega
      have hcl := HO.out.le
      have hcm := HO.out.max
      clear hx
      obtain ⟨wq, hwq⟩ : ∃ wq : World, wq = wr := ⟨_, rfl⟩
      rw [← hwq] at HO HER hc hbl ⊢
      clear hwq
      go_wp2
      go_loop [6] (fun i => ∃ j : Nat, j ≤ k ∧ i = .int .i64 (j : Int) ∧ Hid (posO xs (orderO xs k) x j = posO xs (orderO xs k) x k)) (fun i => (intOf i).toNat)
      case atStart => exact ⟨k, Nat.le_refl _, rfl, hide rfl⟩
      case round =>
        obtain ⟨j, hj, rfl, HP⟩ := hrel
        have htl := run_tail_int Ao k co j hj (j : Int) rfl
        have hji2 : (j : Int) ≤ (k : Int) := by omega
        by_cases hj0 : j = 0
        · have HN := hide (show orderO xs (k + 1) = (orderO xs k).take j ++ [(k : Int)] ++ (orderO xs k).drop j by
            simp only [orderO, insO]
            rw [HVX.out, ← HP.out, hj0]
            rfl)
          have hjz : ¬ 0 < j := by omega
          have hjzi : ¬ (0 : Int) < (j : Int) := by omega
          clear hj0
          have HEL := hide (Ext.one wq (.cells #[] 3))
          have HOL := hide (ints_lit0 wq (Nat.le_refl _))
          have HTK := hide (HO.out.ints.take hj)
          have HDR := hide (HO.out.ints.tail hj)
          have hkj : k - j ≤ 8 := by omega
          go_wp2_with (first
            | (at_builtin; refine push_ints (base := wq.heap.size) rfl (.tmp 43) (.tmp 46) rfl rfl HB6.out (tailA Ao co j) (k - j) (co - j) ((orderO xs k).drop j) rfl (HDR.out.ext HE6.out) (by omega) HE6.out.size ?_; intro B7 d7 w7 hb7 hg7 hat7; have HE7 := hide (HE6.out.grown hg7 (fun k hk => (HB6.out.block k hk).1)))
            | (at_builtin; refine push_ints (base := wq.heap.size) rfl (.tmp 39) (.tmp 41) rfl rfl (HB5.out.ext (Ext.one _ _)) (some ⟨_, 0, none⟩) 1 1 [(k : Int)] rfl (ints_lit1 _ (base := 0) (k : Int) ⟨by omega, by omega⟩ (Nat.zero_le _)).ints (by omega) (by have := HE5.out.size; simp; omega) ?_; intro B6 d6 w6 hb6 hg6 hat6; have HB6 := hide hb6; have HE6 := hide ((HE5.out.alloc (.cells #[.int .i64 (k : Int)] 3)).grown hg6 (fun k hk => (HB5.out.block k hk).1)); clear hb6 hg6 hat6)
            | (at_builtin; refine push_ints rfl (.tmp 34) (.tmp 37) rfl rfl HOL.out Ao j co ((orderO xs k).take j) rfl (HTK.out.ext HEL.out) (by omega) (by simp) ?_; intro B5 d5 w5 hb5 hg5 hat5; rw [Nat.zero_add, List.nil_append] at hb5; have HB5 := hide hb5; have HE5 := hide (HEL.out.grown hg5 (fun k hk => (HOL.out.block k hk).1)); clear hb5 hg5 hat5))
          go_roundw
          case rel => exact ⟨k + 1, d7, B7, by omega, by go_num, by first | rfl | (congr 1; omega), hide (by rw [HN.out]; have e9 : j + 1 + (k - j) = k + 1 := (by omega); rw [e9] at hb7; exact hb7.mono HER.out.size), HER.out.trans HE7.out⟩
          case measure => (simp [intOf] <;> omega)
        · obtain ⟨q, hq⟩ : ∃ q, j = q + 1 := ⟨j - 1, by omega⟩
          have hjm : (j : Int) - 1 = (q : Int) := by omega
          have hqk : q < k := by omega
          obtain ⟨b2, o2, y, rfl, _, _, hy, wy, hcy, _⟩ := HO.out.get hqk
          have hyb := orderO_mem xs k y (List.mem_of_getElem? hy)
          obtain ⟨p, rfl⟩ : ∃ p : Nat, y = (p : Int) := ⟨y.toNat, by omega⟩
          obtain ⟨b3, o3, z, e3, _, hz, wz, hcz⟩ := (HI.out.ext HER.out).get (k := p) (by omega)
          cases e3
          have hvz : vO xs (p : Int) = z := by simp [vO, List.getD, hz]
          have hst := HP.out
          rw [hq] at hst
          simp only [posO] at hst
          rw [show (orderO xs k).getD q 0 = (p : Int) by simp [List.getD, hy], hvz] at hst
          have hj0i : (0 : Int) < (j : Int) := by omega
          have hj0n : 0 < j := by omega
          have hqi : (q : Int) < (k : Int) := by omega
          have hpn : p < n := by omega
          have hpi : (p : Int) < (n : Int) := by omega
          have HQ := hide hq
          clear hj0 hy hz hvz
          by_cases hv : z < x
          · rw [if_pos hv] at hst
            have HST := hide hst
            clear hst hq
            go_wp2
            go_round
            case rel => exact ⟨q, by omega, rfl, HST⟩
            case measure => (simp [intOf] <;> (have := HQ.out; omega))
          · rw [if_neg hv] at hst
            have HN := hide (show orderO xs (k + 1) = (orderO xs k).take j ++ [(k : Int)] ++ (orderO xs k).drop j by
              simp only [orderO, insO]
              rw [HVX.out, ← hst, hq])
            clear hst hq
            have HEL := hide (Ext.one wq (.cells #[] 3))
            have HOL := hide (ints_lit0 wq (Nat.le_refl _))
            have HTK := hide (HO.out.ints.take hj)
            have HDR := hide (HO.out.ints.tail hj)
            have hkj : k - j ≤ 8 := by omega
            go_wp2_with (first
              | (at_builtin; refine push_ints (base := wq.heap.size) rfl (.tmp 43) (.tmp 46) rfl rfl HB6.out (tailA (some ⟨b2, o2, none⟩) co j) (k - j) (co - j) ((orderO xs k).drop j) rfl (HDR.out.ext HE6.out) (by omega) HE6.out.size ?_; intro B7 d7 w7 hb7 hg7 hat7; have HE7 := hide (HE6.out.grown hg7 (fun k hk => (HB6.out.block k hk).1)))
              | (at_builtin; refine push_ints (base := wq.heap.size) rfl (.tmp 39) (.tmp 41) rfl rfl (HB5.out.ext (Ext.one _ _)) (some ⟨_, 0, none⟩) 1 1 [(k : Int)] rfl (ints_lit1 _ (base := 0) (k : Int) ⟨by omega, by omega⟩ (Nat.zero_le _)).ints (by omega) (by have := HE5.out.size; simp; omega) ?_; intro B6 d6 w6 hb6 hg6 hat6; have HB6 := hide hb6; have HE6 := hide ((HE5.out.alloc (.cells #[.int .i64 (k : Int)] 3)).grown hg6 (fun k hk => (HB5.out.block k hk).1)); clear hb6 hg6 hat6)
              | (at_builtin; refine push_ints rfl (.tmp 34) (.tmp 37) rfl rfl HOL.out (some ⟨b2, o2, none⟩) j co ((orderO xs k).take j) rfl (HTK.out.ext HEL.out) (by omega) (by simp) ?_; intro B5 d5 w5 hb5 hg5 hat5; rw [Nat.zero_add, List.nil_append] at hb5; have HB5 := hide hb5; have HE5 := hide (HEL.out.grown hg5 (fun k hk => (HOL.out.block k hk).1)); clear hb5 hg5 hat5))
            go_roundw
            case rel => exact ⟨k + 1, d7, B7, by omega, by go_num, by first | rfl | (congr 1; omega), hide (by rw [HN.out]; have e9 : j + 1 + (k - j) = k + 1 := (by omega); rw [e9] at hb7; exact hb7.mono HER.out.size), HER.out.trans HE7.out⟩
            case measure => (simp [intOf] <;> omega)
    · have hke : k = n := by omega
      subst hke
      go_wp2
      go_ret
      exact RetI.mk rfl HO.out HER.out
-- SwissOrder words
def swissOrder (xs : List Int) : List Int := if isSwiss xs then orderO xs xs.length else []
theorem swissOrder_len (xs : List Int) : (swissOrder xs).length ≤ 8 := by
  unfold swissOrder
  split
  · rename_i h; rw [orderO_len]; exact h.1.2
  · simp
-- impl.SwissOrder
theorem iSwissOrder_any (A : Option Addr) (n c : Nat) (xs : List Int) (w : World) (h : Ints w A n c xs) :
    Calls Try.prog 17 #[.slice A n c] w (RetI w (swissOrder xs)) := by
  have H_h := hide h
  have HL := hide h.len
  clear h
  by_cases hp1 : isSwiss xs
  · skip
    have HP1 := hide hp1
    have HF := hide (show swissOrder xs = orderO xs n from (by unfold swissOrder; rw [if_pos hp1, HL.out]))
    clear hp1
    go_enter Try.func17, Try.ntmps17
    go_wp2_with (first | (go_at_call 86; refine (iisSwiss_any _ _ _ xs _ H_h.out).mono ?_; rw [decide_eq_true HP1.out]; rintro e w1 ⟨rfl, hE1⟩) | (go_at_call 87; refine (orderBy_any _ _ _ xs _ (H_h.out.ext hE1) (by have := HP1.out.1; have := HL.out; omega) (by have := HP1.out.1; have := HL.out; omega)).mono ?_; rintro e w2 ⟨B2, d2, rfl, ho2, hE2⟩))
    go_ret
    rw [HF.out]
    exact RetI.mk rfl (ho2.mono (by have := hE1.size; omega)) (hE1.trans hE2)
  · have HP1 := hide hp1
    have HF := hide (show swissOrder xs = [] from by
      unfold swissOrder
      rw [if_neg]
      intro hh; exact HP1.out (by first | exact hh.1 | exact hh.2.1 | exact hh.2.2.1 | exact hh.2.2 | exact hh.2.2.2 | exact hh.2.2.2.1 | exact hh | (have := hh; omega) | simp_all))
    clear hp1
    go_enter Try.func17, Try.ntmps17
    go_wp2_with (first | (go_at_call 86; refine (iisSwiss_any _ _ _ xs _ H_h.out).mono ?_; rw [decide_eq_false HP1.out]; rintro e w1 ⟨rfl, hE1⟩))
    go_ret
    rw [HF.out]
    exact RetI.mk rfl (OwI.nil _ _) hE1

end Go.Proofs.Ytbaljgdepicigaa
