/-
  Contracts of the functions that draw plans: rounds exchanged, doubled, drawn.
-/
import Derived.Deep.RegionLaw
import Derived.Deep.DeepCutAuto
import Derived.Test.YtbaljgdepicigaaBase
import Derived.Test.YtbaljgdepicigaaMathA
import Derived.Test.YtbaljgdepicigaaMathD
import Derived.Test.YtbaljgdepicigaaLib
import Derived.Test.YtbaljgdepicigaaAid
import Derived.Test.YtbaljgdepicigaaStep
import Derived.Test.YtbaljgdepicigaaGrid
import Derived.Test.YtbaljgdepicigaaLibF
import Derived.Test.YtbaljgdepicigaaMathB
import Derived.Test.YtbaljgdepicigaaMathU
import Derived.Test.YtbaljgdepicigaaMathW
import Derived.Test.YtbaljgdepicigaaMathT
import Derived.Test.YtbaljgdepicigaaMathM
import Derived.Test.YtbaljgdepicigaaMathTr
import Derived.Test.YtbaljgdepicigaaMathTp
import Derived.Test.YtbaljgdepicigaaDist
import Derived.Test.YtbaljgdepicigaaPlan
import Derived.Test.YtbaljgdepicigaaCurA
import Derived.Test.YtbaljgdepicigaaDrwA
import Derived.Test.YtbaljgdepicigaaDrwB
import Derived.Test.YtbaljgdepicigaaDrwE
import Derived.Test.YtbaljgdepicigaaSwsA
import Derived.Test.YtbaljgdepicigaaTrvB
import Derived.Test.YtbaljgdepicigaaTrvA
namespace Go.Proofs.Ytbaljgdepicigaa
open Go.RowKit
set_option linter.unusedVariables false
set_option maxRecDepth 100000

-- spec.l16At
theorem l16At_any (n : Nat) (A : Option Addr) (m c : Nat) (rows : List (List Int)) (r : Nat) (w : World) (h : Grid w A m c rows) (hp : planOk (n : Int) rows) (hr : r < m) :
    Calls Try.prog 192 #[.int .i64 (n : Int), .slice A m c, .int .i64 (r : Int), .int .i64 0] w fun e w' => e = .returned (.bool true) ∧ w = w' := by
  have hn := hp.1
  have hle := h.le
  have hmx := h.max
  have CP := hide (sPlanOk_any (n : Int) A m c rows w ⟨by have := hn.1; omega, by have := hn.1; omega⟩ h)
  rw [decide_eq_true hp] at CP
  obtain ⟨q, hq⟩ : ∃ q : Nat, (m : Int) - 1 = (q : Int) := ⟨m - 1, by omega⟩
  obtain ⟨q2, hq2⟩ : ∃ q : Nat, (n : Int) - 1 = (q : Int) := ⟨n - 1, by have := hn.1; omega⟩
  have hwq : IntKind.i64.wrap (q : Int) = (q : Int) := by rw [IntKind.wrap_i64]; omega
  have hwq2 : IntKind.i64.wrap (q2 : Int) = (q2 : Int) := by rw [IntKind.wrap_i64]; have := hn.1; omega
  have HD1 := hide (show decide (0 ≤ (r : Int) ∧ (r : Int) ≤ (q : Int)) = true from decide_eq_true (by omega))
  have HD2 := hide (show decide ((0 : Int) ≤ 0 ∧ (0 : Int) ≤ (q2 : Int)) = true from decide_eq_true (by omega))
  clear h hp hn
  go_enter Try.func192, Try.ntmps192
  go_wp2_with (first
    | (go_at_call 194; refine CP.out.mono ?_; rintro e w' ⟨rfl, rfl⟩)
    | (go_at_call 146; refine (l01In_any _ _ _ _).mono ?_; (first | rw [HD1.out] | rw [HD2.out]); rintro e w' ⟨rfl, rfl⟩))
  go_ret
  exact ⟨rfl, rfl⟩
-- plan rows
theorem plan_small {n : Nat} {rows : List (List Int)} (hp : planOk (n : Int) rows) : ∀ r ∈ rows, r.length ≤ 10 ∧ ∀ x ∈ r, -100 ≤ x ∧ x ≤ 100 := fun r hr => by
  have h1 := hp.1.1
  have h2 := hp.2.2 r hr
  exact ⟨by have := h2.1; omega, fun x hx => by have := h2.2.1 x hx; omega⟩
-- spec.SwapRounds
set_option maxHeartbeats 1000000 in
theorem swapRounds_any (n : Nat) (A : Option Addr) (m c : Nat) (rows : List (List Int)) (r s : Nat) (w : World) (h : Grid w A m c rows) (hp : planOk (n : Int) rows) (hr : r < m) (hs : s < m) :
    Calls Try.prog 173 #[.int .i64 (n : Int), .slice A m c, .int .i64 (r : Int), .int .i64 (s : Int)] w (RetG w (swapP rows r s)) := by
  have CA := hide (fun (v : Nat) (hv : v < m) => l16At_any n A m c rows v w h hp hv)
  have HL := hide h.len
  have hm36 : m ≤ 36 := by have := hp.2.1; have := HL.out; omega
  have C1 := hide (l16Turn_any A m c rows w h hm36 (plan_small hp))
  have HP := hide (plan_small (turn_ok hp))
  have hri : (r : Int) < (m : Int) := by omega
  have hsi : (s : Int) < (m : Int) := by omega
  clear h hp
  go_enter Try.func173, Try.ntmps173
  go_wp2_with (go_at_call 192; refine (CA.out _ (by assumption)).mono ?_; rintro e w' ⟨rfl, rfl⟩)
  refine C1.out.mono ?_
  rintro e w1 ⟨A1, c1, rfl, ho1, hE1⟩
  rw [turnP_len, HL.out] at ho1 ⊢
  have C2 := hide (l16Turn_any A1 m c1 (turnP rows) w1 ho1.grid hm36 HP.out)
  rw [turnP_turnP] at C2
  have HE1 := hide hE1
  clear ho1 hE1 C1
  go_wp2_with fail
  refine C2.out.mono ?_
  rintro e w2 ⟨A2, c2, rfl, ho2, hE2⟩
  rw [HL.out] at ho2 ⊢
  obtain ⟨b, off, B1, m1, d1, B2, m2, d2, uk, rfl, hb, a1, a2, a3, a4, a5, hoS⟩ := ho2.swap hr hs
  have HOS := hide hoS
  have hz := HE1.out.size
  have HE2 := hide (((HE1.out.trans hE2).grown (grown_setCell w2 ⟨b, off + r, none⟩ (.slice B2 m2 d2)) (fun k hk => by cases hk; exact Nat.le_trans hz hb)).grown (grown_setCell _ ⟨b, off + s, none⟩ (.slice B1 m1 d1)) (fun k hk => by cases hk; exact Nat.le_trans hz hb))
  have hln := ho2.grid.le
  have hlm := ho2.grid.max
  clear ho2 hE2 hoS C2 hb
  go_wp2
  go_ret
  exact RetG.mk rfl (HOS.out.mono hz (by simp)) HE2.out
-- spec.DoublePlan
set_option maxHeartbeats 1000000 in
theorem doublePlan_any (n : Nat) (A : Option Addr) (m c : Nat) (rows : List (List Int)) (w : World) (h : Grid w A m c rows) (hp : planOk (n : Int) rows) (hm : m ≤ 18) :
    Calls Try.prog 175 #[.int .i64 (n : Int), .slice A m c] w (RetG w (rows ++ turnP rows)) := by
  have HL := hide h.len
  have hn := hp.1
  have hle := h.le
  have hmx := h.max
  have CP := hide (sPlanOk_any (n : Int) A m c rows w ⟨by have := hn.1; omega, by have := hn.1; omega⟩ h)
  rw [decide_eq_true hp] at CP
  have hm36 : m ≤ 36 := by omega
  have C1 := hide (fun w' (hE : Ext w w') => l16Turn_any A m c rows w' (h.ext hE) hm36 (plan_small hp))
  have HP := hide (plan_small (turn_ok hp))
  clear h hp hn
  go_enter Try.func175, Try.ntmps175
  go_wp2_with (go_at_call 194; refine CP.out.mono ?_; rintro e w' ⟨rfl, rfl⟩)
  refine (C1.out w (Ext.refl _)).mono ?_
  rintro e w1 ⟨A1, c1, rfl, ho1, hE1⟩
  rw [turnP_len, HL.out] at ho1 ⊢
  have C2 := hide (l16Turn_any A1 m c1 (turnP rows) w1 ho1.grid hm36 HP.out)
  rw [turnP_turnP] at C2
  have HE1 := hide hE1
  clear ho1 hE1
  go_wp2_with fail
  refine C2.out.mono ?_
  rintro e w2 ⟨A2, c2, rfl, ho2, hE2⟩
  rw [HL.out] at ho2 ⊢
  have HO2 := hide ho2
  have HE2 := hide (HE1.out.trans hE2)
  have hz1 := HE1.out.size
  have hz12 := hE2.size
  clear ho2 hE2 C2
  go_wp2_with fail
  refine (C1.out w2 HE2.out).mono ?_
  rintro e w3 ⟨A3, c3, rfl, ho3, hE3⟩
  rw [turnP_len, HL.out] at ho3 ⊢
  have HO3 := hide ho3
  have HO2 := hide (HO2.out.ext hE3)
  have HE3 := hide (HE2.out.trans hE3)
  have hz2 := HE2.out.size
  have hz3 := hE3.size
  clear ho3 hE3
  go_wp2_with (at_builtin; refine push_grid (lo := w.heap.size) (mid := w2.heap.size) rfl (.tmp 16) (.tmp 18) rfl rfl (HO2.out.mono hz1 (Nat.le_refl _)) rfl HO3.out (by omega) (by omega) (by omega) ?_; intro A5 c5 w5 ho5 hz5)
  go_ret
  exact RetG.mk rfl ho5 (hz5 w HE3.out (Nat.le_refl _))

end Go.Proofs.Ytbaljgdepicigaa
