/-
  Contracts of the functions that draw plans.
-/
import Derived.Deep.RegionLaw
import Derived.Deep.DeepCutAuto
import Derived.Test.YtbaljgdepicigaaBase
import Derived.Test.YtbaljgdepicigaaMathA
import Derived.Test.YtbaljgdepicigaaMathD
import Derived.Test.YtbaljgdepicigaaLib
import Derived.Test.YtbaljgdepicigaaAid
import Derived.Test.YtbaljgdepicigaaStep
import Derived.Test.YtbaljgdepicigaaGrid
import Derived.Test.YtbaljgdepicigaaLibF
import Derived.Test.YtbaljgdepicigaaMathB
import Derived.Test.YtbaljgdepicigaaMathT
import Derived.Test.YtbaljgdepicigaaMathM
import Derived.Test.YtbaljgdepicigaaMathTr
import Derived.Test.YtbaljgdepicigaaMathTp
import Derived.Test.YtbaljgdepicigaaDist
import Derived.Test.YtbaljgdepicigaaPlan
namespace Go.Proofs.Ytbaljgdepicigaa
open Go.RowKit
set_option linter.unusedVariables false
set_option maxRecDepth 100000

-- words
theorem grid_lit0 (w : World) : OwG (w.alloc (.cells #[] 23)) w.heap.size (w.alloc (.cells #[] 23)).heap.size (some ⟨w.heap.size, 0, none⟩) 0 0 [] :=
  ⟨[], ⟨rfl, Nat.le_refl _, by omega, .inr ⟨w.heap.size, 0, #[], rfl, Nat.le_refl _, heap_alloc_new w _, by simp, fun k v hk => by simp at hk⟩⟩, fun k hk => by cases hk; simp, rfl, (fun i x r hx => by simp at hx), (fun i j x y _ hx => by simp at hx)⟩
/-- Two cells of an own slice are set. -/
theorem OwI.two {w : World} {base X n c : Nat} {xs : List Int} (h : OwI w base (some ⟨X, 0, none⟩) n c xs) {i k : Nat} (hi : i < n) (hk : k < n) {x y : Int} (hx : I64 x) (hy : I64 y) :
    ∃ u v : Int, w.cell? ⟨X, i, none⟩ = some (.int .i64 u) ∧ w.frozen? ⟨X, i, none⟩ = false ∧ (w.setCell ⟨X, i, none⟩ (.int .i64 x)).cell? ⟨X, k, none⟩ = some (.int .i64 v) ∧ (w.setCell ⟨X, i, none⟩ (.int .i64 x)).frozen? ⟨X, k, none⟩ = false ∧
      OwI ((w.setCell ⟨X, i, none⟩ (.int .i64 x)).setCell ⟨X, k, none⟩ (.int .i64 y)) base (some ⟨X, 0, none⟩) n c ((xs.set i x).set k y) := by
  obtain ⟨b1, o1, u, e1, _, _, _, _, hc1, hf1⟩ := h.get hi
  cases e1
  have h2 := h.store rfl hi hx
  rw [Nat.zero_add] at h2 hc1 hf1
  obtain ⟨b2, o2, v, e2, _, _, _, _, hc2, hf2⟩ := h2.get hk
  cases e2
  have h3 := h2.store rfl hk hy
  rw [Nat.zero_add] at h3 hc2 hf2
  exact ⟨u, v, hc1, hf1, hc2, hf2, h3⟩
-- spec.l16Turn
set_option maxHeartbeats 1000000 in
theorem l16Turn_any (A : Option Addr) (n c : Nat) (rows : List (List Int)) (w : World) (h : Grid w A n c rows) (hn : n ≤ 36) (hb : ∀ r ∈ rows, r.length ≤ 10 ∧ ∀ x ∈ r, -100 ≤ x ∧ x ≤ 100) :
    Calls Try.prog 193 #[.slice A n c] w (RetG w (turnP rows)) := by
  have HL := hide h.len
  have HI := hide h
  have HB := hide hb
  have hle := h.le
  have hmx := h.max
  have HG0 := hide (grid_lit0 w)
  have HE0 := hide (Ext.one w (.cells #[] 23))
  clear h hb
  go_enter Try.func193, Try.ntmps193
  go_wp2
  go_loopw [3, 12] (fun o i wr => ∃ (k co : Nat) (Ao : Option Addr), k ≤ n ∧ i = .int .i64 (k : Int) ∧ o = .slice Ao k co ∧ Hid (OwG wr w.heap.size wr.heap.size Ao k co (turnP (rows.take k))) ∧ Hid (Ext w wr)) (fun _ i _ => n - (intOf i).toNat)
  case atStart => exact ⟨0, _, _, Nat.zero_le _, rfl, rfl, HG0, HE0⟩
  case round =>
    obtain ⟨k, co, Ao, hk, rfl, rfl, HG, HER⟩ := hrel
    obtain ⟨wb, rfl⟩ : ∃ wb : World, wb = wr := ⟨_, rfl⟩
    by_cases hlt : k < n
    · have hki : (k : Int) < (n : Int) := by omega
      obtain ⟨b, off, B, d, r, rfl, hbl, hx, hc, hir⟩ := (HI.out.ext HER.out).get hlt
      have hrb := HB.out r (List.mem_of_getElem? hx)
      have hr10 := hrb.1
      have HRB := hide hrb.2
      have HS := hide (turnP_snoc hx)
      have HIR := hide hir
      have hrd := hir.le
      have hrm := hir.max
      have HO0 := hide (ints_lit0 wb (Nat.le_refl _))
      have HE1 := hide (Ext.one wb (.cells #[] 3))
      have hsz := HER.out.size
      clear hx hir hrb hbl
      go_wp2
      go_loopw [6, 19] (fun o i wr => ∃ (j cj : Nat) (Aj : Option Addr), j ≤ r.length ∧ i = .int .i64 (j : Int) ∧ o = .slice Aj j cj ∧ Hid (OwI wr wb.heap.size Aj j cj (negR (r.take j))) ∧ Hid (Ext wb wr)) (fun _ i _ => r.length - (intOf i).toNat)
      case atStart => exact ⟨0, _, _, Nat.zero_le _, rfl, rfl, HO0, HE1⟩
      case round =>
        obtain ⟨j, cj, Aj, hj, rfl, rfl, HO, HE⟩ := hrel
        by_cases hjl : j < r.length
        · have hji : (j : Int) < (r.length : Int) := by omega
          obtain ⟨b2, o2, x, rfl, hb2, hx2, wx, hcx⟩ := (HIR.out.ext HE.out).get hjl
          have hxb := HRB.out x (List.mem_of_getElem? hx2)
          have HN := hide (negR_snoc hx2)
          have hwx : IntKind.i64.wrap (-x) = -x := by rw [IntKind.wrap_i64]; omega
          have hz := HE.out.size
          clear hx2
          go_wp2_with (at_builtin; refine push_ints (base := wb.heap.size) rfl (.tmp 23) (.tmp 26) rfl rfl (HO.out.ext (Ext.one _ _)) (some ⟨_, 0, none⟩) 1 1 [-x] rfl (ints_lit1 _ (base := 0) (-x) ⟨by omega, by omega⟩ (Nat.zero_le _)).ints (by omega) (by simp; omega) ?_; intro B5 d5 w5 hb5 hg5 hat5)
          go_roundw
          case rel => exact ⟨j + 1, d5, B5, by omega, by go_num, rfl, hide (by rw [HN.out]; exact hb5), hide ((HE.out.alloc _).grown hg5 (fun k hk => (HO.out.block k hk).1))⟩
          case measure => (simp [intOf] <;> omega)
        · have hje : j = r.length := by omega
          subst hje
          have hji : ¬ (r.length : Int) < (r.length : Int) := by omega
          have HO2 := hide (show OwI wr wb.heap.size Aj r.length cj (negR r) by have := HO.out; rwa [List.take_of_length_le (Nat.le_refl _)] at this)
          go_wp2_with (at_builtin; refine push_row (w0 := wb) (lo := w.heap.size) rfl (.tmp 29) (.tmp 31) rfl rfl HG.out (HE.out.alloc _) (HO2.out.ext (Ext.one _ _)) wr.heap.size rfl (by simp) (by omega) hsz ?_; intro A5 d5 w5 hg5 hz5)
          go_roundw
          case rel => exact ⟨k + 1, d5, A5, by omega, by go_num, rfl, hide (by rw [HS.out]; exact hg5), hide (hz5 w (HER.out.trans (HE.out.alloc _)) (Nat.le_refl _))⟩
          case measure => (simp [intOf] <;> omega)
    · have hke : k = n := by omega
      subst hke
      have HG2 := hide (show OwG wb w.heap.size wb.heap.size Ao k co (turnP rows) by have := HG.out; rwa [List.take_of_length_le (by rw [HL.out]; exact Nat.le_refl _)] at this)
      go_wp2
      go_ret
      exact RetG.mk rfl HG2.out HER.out
-- spec.CirclePlan
theorem circ_tmods {n r j q : Nat} (hq : q + 1 = n) (hr : r < q) (hj : j < n) : ((r : Int) + (j : Int)).tmod (q : Int) = (circI n r j : Int) ∧ ((r : Int) - (j : Int) + (n : Int) - 1).tmod (q : Int) = (circK n r j : Int) ∧ circI n r j < q ∧ circK n r j < q := by
  have e : n - 1 = q := by omega
  refine ⟨?_, ?_, ?_, ?_⟩
  · unfold circI
    rw [Int.tmod_eq_emod_of_nonneg (by omega), e, Int.natCast_emod, Int.natCast_add]
  · unfold circK
    rw [Int.tmod_eq_emod_of_nonneg (by omega), e, Int.natCast_emod]
    congr 1
    omega
  · unfold circI; rw [e]; exact Nat.mod_lt _ (by omega)
  · unfold circK; rw [e]; exact Nat.mod_lt _ (by omega)
theorem circR_step (n r i j : Nat) (h : j = i + 1) : circR n r j = if j % 2 = 1 then ((circR n r i).set (circI n r j) ((circK n r j : Int) + 1)).set (circK n r j) (-(circI n r j : Int) - 1)
    else ((circR n r i).set (circK n r j) ((circI n r j : Int) + 1)).set (circI n r j) (-(circK n r j : Int) - 1) := by subst h; rfl
set_option maxHeartbeats 4000000 in
theorem circlePlan_any (n : Nat) (w : World) (h2 : 2 ≤ n) (h8 : n ≤ 8) (he : n % 2 = 0) :
    Calls Try.prog 172 #[.int .i64 (n : Int)] w fun e w' => ∃ A c, e = .returned (.tuple #[.slice A (n - 1) c, .bool true]) ∧ OwG w' w.heap.size w'.heap.size A (n - 1) c (circP n (n - 1)) ∧ Ext w w' := by
  obtain ⟨q, hq⟩ : ∃ q, q + 1 = n := ⟨n - 1, by omega⟩
  obtain ⟨H, hH⟩ : ∃ H, H = n / 2 := ⟨_, rfl⟩
  have hqi : (n : Int) - 1 = (q : Int) := by omega
  have hwq : IntKind.i64.wrap (q : Int) = (q : Int) := by rw [IntKind.wrap_i64]; omega
  have hHi : (n : Int) / 2 = (H : Int) := by omega
  have hq1 : n - 1 = q := by omega
  have HQ := hide hq1
  have HH := hide hH
  have CS := hide (show Calls Try.prog 176 #[.int .i64 (n : Int)] w fun e w' => e = .returned (.bool true) ∧ w = w' from by
    have := l16Size_any (n : Int) w
    rw [decide_eq_true (show clubs (n : Int) from ⟨by omega, by omega⟩)] at this
    exact this)
  have hH4 : H ≤ 4 := by omega
  have hH1 : 1 ≤ H := by omega
  have hq7 : q ≤ 7 := by omega
  rw [hq1]
  clear hH hq1 he
  go_enter Try.func172, Try.ntmps172
  go_wp2_with fail
  refine CS.out.mono ?_
  rintro e w1 ⟨rfl, rfl⟩
  have HG0 := hide (grid_lit0 w)
  have HE0 := hide (Ext.one w (.cells #[] 23))
  go_wp2
  go_loopw [4, 5] (fun o i wr => ∃ (k co : Nat) (Ao : Option Addr), k ≤ q ∧ i = .int .i64 (k : Int) ∧ o = .slice Ao k co ∧ Hid (OwG wr w.heap.size wr.heap.size Ao k co (circP n k)) ∧ Hid (Ext w wr)) (fun _ i _ => q - (intOf i).toNat)
  case atStart => exact ⟨0, _, _, Nat.zero_le _, rfl, rfl, HG0, HE0⟩
  case round =>
    obtain ⟨r, co, Ao, hk, rfl, rfl, HG, HER⟩ := hrel
    obtain ⟨wb, rfl⟩ : ∃ wb : World, wb = wr := ⟨_, rfl⟩
    by_cases hlt : r < q
    · have hri : (r : Int) < (q : Int) := by omega
      have hrn : (r : Int) < (n : Int) := by omega
      have hqn : (q : Int) < (n : Int) := by omega
      have hqnn : q < n := by omega
      have hrnn : r < n := by omega
      have hsz := HER.out.size
      have hmk := run_make_ints n (by omega)
      have HC0 := hide (show circR n r 0 = circ0 n r from rfl)
      go_upto_if 24 with fail
      obtain ⟨w1, hw1⟩ : ∃ w1 : World, w1 = wb.alloc (.cells (zeroRow n) 3) := ⟨_, rfl⟩
      have HZ := hide (show OwI w1 wb.heap.size (some ⟨wb.heap.size, 0, none⟩) n n (List.replicate n 0) by rw [hw1]; exact OwI.zeros wb n (by omega) (Nat.le_refl _))
      have hE1 : Ext wb w1 := by rw [hw1]; exact Ext.one _ _
      rw [← hw1]
      clear hw1 hmk
      go_cut [] (fun wx => OwI wx wb.heap.size (some ⟨wb.heap.size, 0, none⟩) n n (circR n r 0) ∧ Ext wb wx)
      case first =>
        rcases Nat.mod_two_eq_zero_or_one r with hodd | hodd
        · have hrb : ((r : Int) % 2 == 1) = false := by simp; omega
          have hv : ((List.replicate n (0 : Int)).set r (n : Int)).set q (-(r : Int) - 1) = circR n r 0 := by
            rw [HC0.out]; unfold circ0; rw [if_neg (by omega), HQ.out]
          obtain ⟨u, v, a1, a2, a3, a4, ho⟩ := HZ.out.two hrnn hqnn (x := (n : Int)) (y := -(r : Int) - 1) ⟨by omega, by omega⟩ ⟨by omega, by omega⟩
          rw [hv] at ho
          have HO := hide ho
          have HE := hide ((hE1.grown (grown_setCell w1 ⟨wb.heap.size, r, none⟩ (.int .i64 (n : Int))) (fun k hk => by cases hk; exact Nat.le_refl _)).grown (grown_setCell _ ⟨wb.heap.size, q, none⟩ (.int .i64 (-(r : Int) - 1))) (fun k hk => by cases hk; exact Nat.le_refl _))
          clear hv ho hodd hE1 HZ
          go_wp2
          go_meet
          case rel => exact ⟨HO.out, HE.out⟩
        · have hrb : ((r : Int) % 2 == 1) = true := by simp; omega
          have hv : ((List.replicate n (0 : Int)).set q ((r : Int) + 1)).set r (-(n : Int)) = circR n r 0 := by
            rw [HC0.out]; unfold circ0; rw [if_pos (by omega), HQ.out]
          obtain ⟨u, v, a1, a2, a3, a4, ho⟩ := HZ.out.two hqnn hrnn (x := ((r : Int) + 1)) (y := -(n : Int)) ⟨by omega, by omega⟩ ⟨by omega, by omega⟩
          rw [hv] at ho
          have HO := hide ho
          have HE := hide ((hE1.grown (grown_setCell w1 ⟨wb.heap.size, q, none⟩ (.int .i64 ((r : Int) + 1))) (fun k hk => by cases hk; exact Nat.le_refl _)).grown (grown_setCell _ ⟨wb.heap.size, r, none⟩ (.int .i64 (-(n : Int)))) (fun k hk => by cases hk; exact Nat.le_refl _))
          clear hv ho hodd hE1 HZ
          go_wp2
          go_meet
          case rel => exact ⟨HO.out, HE.out⟩
      case rest =>
        obtain ⟨ho, he⟩ := hcut
        have HO := hide ho
        have HE := hide he
        clear ho he HZ hE1 HC0
        go_wp2
        go_loopw [7] (fun i wr => ∃ j : Nat, 1 ≤ j ∧ j ≤ H ∧ i = .int .i64 (j : Int) ∧ Hid (OwI wr wb.heap.size (some ⟨wb.heap.size, 0, none⟩) n n (circR n r (j - 1))) ∧ Hid (Ext wb wr)) (fun i _ => H - (intOf i).toNat)
        case atStart => exact ⟨1, Nat.le_refl _, hH1, rfl, HO, HE⟩
        case round =>
          obtain ⟨j, hj1, hjH, rfl, HOj, HEj⟩ := hrel
          by_cases hjl : j < H
          · have hji : (j : Int) < (H : Int) := by omega
            have hw1 : IntKind.i64.wrap ((r : Int) + (j : Int)) = (r : Int) + (j : Int) := by rw [IntKind.wrap_i64]; omega
            have hw2 : IntKind.i64.wrap ((r : Int) - (j : Int)) = (r : Int) - (j : Int) := by rw [IntKind.wrap_i64]; omega
            have hw3 : IntKind.i64.wrap ((r : Int) - (j : Int) + (n : Int)) = (r : Int) - (j : Int) + (n : Int) := by rw [IntKind.wrap_i64]; omega
            have hw4 : IntKind.i64.wrap ((r : Int) - (j : Int) + (n : Int) - 1) = (r : Int) - (j : Int) + (n : Int) - 1 := by rw [IntKind.wrap_i64]; omega
            obtain ⟨t1, t2, t3, t4⟩ := circ_tmods (n := n) (r := r) (j := j) hq hlt (by omega)
            have HST := hide (circR_step n r (j - 1) j (by omega))
            generalize circI n r j = I at *
            generalize circK n r j = K at *
            have hIn : I < n := by omega
            have hKn : K < n := by omega
            have hIi : (I : Int) < (n : Int) := by omega
            have hKi : (K : Int) < (n : Int) := by omega
            have hq0 : ¬ q = 0 := by omega
            rcases Nat.mod_two_eq_zero_or_one j with hodd | hodd
            · have hjb : ((j : Int) % 2 == 1) = false := by simp; omega
              have hv := HST.out
              rw [if_neg (by omega)] at hv
              obtain ⟨u, v, a1, a2, a3, a4, ho⟩ := HOj.out.two hKn hIn (x := (I : Int) + 1) (y := -(K : Int) - 1) ⟨by omega, by omega⟩ ⟨by omega, by omega⟩
              rw [← hv] at ho
              have HO2 := hide ho
              have HE2 := hide ((HEj.out.grown (grown_setCell wr ⟨wb.heap.size, K, none⟩ (.int .i64 ((I : Int) + 1))) (fun k hk => by cases hk; exact Nat.le_refl _)).grown (grown_setCell _ ⟨wb.heap.size, I, none⟩ (.int .i64 (-(K : Int) - 1))) (fun k hk => by cases hk; exact Nat.le_refl _))
              clear hv ho hodd
              go_wp2
              go_roundw
              case rel => exact ⟨j + 1, by omega, by omega, by go_num, HO2, HE2⟩
              case measure => (simp [intOf] <;> omega)
            · have hjb : ((j : Int) % 2 == 1) = true := by simp; omega
              have hv := HST.out
              rw [if_pos (by omega)] at hv
              obtain ⟨u, v, a1, a2, a3, a4, ho⟩ := HOj.out.two hIn hKn (x := (K : Int) + 1) (y := -(I : Int) - 1) ⟨by omega, by omega⟩ ⟨by omega, by omega⟩
              rw [← hv] at ho
              have HO2 := hide ho
              have HE2 := hide ((HEj.out.grown (grown_setCell wr ⟨wb.heap.size, I, none⟩ (.int .i64 ((K : Int) + 1))) (fun k hk => by cases hk; exact Nat.le_refl _)).grown (grown_setCell _ ⟨wb.heap.size, K, none⟩ (.int .i64 (-(I : Int) - 1))) (fun k hk => by cases hk; exact Nat.le_refl _))
              clear hv ho hodd
              go_wp2
              go_roundw
              case rel => exact ⟨j + 1, by omega, by omega, by go_num, HO2, HE2⟩
              case measure => (simp [intOf] <;> omega)
          · have hje : j = H := by omega
            have hji : ¬ (j : Int) < (H : Int) := by omega
            have HOE := hide (show OwI wr wb.heap.size (some ⟨wb.heap.size, 0, none⟩) n n (circR n r (n / 2 - 1)) by have := HOj.out; rwa [hje, HH.out] at this)
            have HCS := hide (circP_succ n r)
            clear hje
            go_wp2_with (at_builtin; refine push_row (w0 := wb) (lo := w.heap.size) rfl (.tmp 93) (.tmp 95) rfl rfl HG.out (HEj.out.alloc _) (HOE.out.ext (Ext.one _ _)) wr.heap.size rfl (by simp) (by omega) hsz ?_; intro A5 d5 w5 hg5 hz5)
            go_roundw
            case rel => exact ⟨r + 1, d5, A5, by omega, by go_num, rfl, hide (by rw [HCS.out]; exact hg5), hide (hz5 w (HER.out.trans (HEj.out.alloc _)) (Nat.le_refl _))⟩
            case measure => (simp [intOf] <;> omega)
    · have hke : r = q := by omega
      subst hke
      have hki : ¬ (r : Int) < (r : Int) := by omega
      go_wp2
      go_ret2
      exact ⟨Ao, co, rfl, HG.out, HER.out⟩

end Go.Proofs.Ytbaljgdepicigaa
