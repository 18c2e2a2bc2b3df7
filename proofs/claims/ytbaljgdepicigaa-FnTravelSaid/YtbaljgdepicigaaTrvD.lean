/-
  Contracts of the functions that draw plans and distances: l16Draw, MakePlan.
-/
import Derived.Deep.RegionLaw
import Derived.Deep.DeepCutAuto
import Derived.Test.YtbaljgdepicigaaBase
import Derived.Test.YtbaljgdepicigaaMathA
import Derived.Test.YtbaljgdepicigaaMathD
import Derived.Test.YtbaljgdepicigaaLib
import Derived.Test.YtbaljgdepicigaaAid
import Derived.Test.YtbaljgdepicigaaStep
import Derived.Test.YtbaljgdepicigaaGrid
import Derived.Test.YtbaljgdepicigaaLibF
import Derived.Test.YtbaljgdepicigaaMathB
import Derived.Test.YtbaljgdepicigaaMathU
import Derived.Test.YtbaljgdepicigaaMathW
import Derived.Test.YtbaljgdepicigaaMathT
import Derived.Test.YtbaljgdepicigaaMathM
import Derived.Test.YtbaljgdepicigaaMathTr
import Derived.Test.YtbaljgdepicigaaMathTp
import Derived.Test.YtbaljgdepicigaaDist
import Derived.Test.YtbaljgdepicigaaPlan
import Derived.Test.YtbaljgdepicigaaCurA
import Derived.Test.YtbaljgdepicigaaDrwA
import Derived.Test.YtbaljgdepicigaaDrwB
import Derived.Test.YtbaljgdepicigaaDrwE
import Derived.Test.YtbaljgdepicigaaSwsA
import Derived.Test.YtbaljgdepicigaaTrvB
import Derived.Test.YtbaljgdepicigaaTrvA
import Derived.Test.YtbaljgdepicigaaTrvC
namespace Go.Proofs.Ytbaljgdepicigaa
open Go.RowKit
set_option linter.unusedVariables false
set_option maxRecDepth 100000

-- spec.MakePlan
/-- A plan of 2, 4, 6 or 8 clubs comes back. -/
def RetPlan (w0 w : World) (e : Ending) (w' : World) : Prop := ∃ (n : Nat) (rows : List (List Int)) (A : Option Addr) (c : Nat), 2 ≤ n ∧ n ≤ 8 ∧ n % 2 = 0 ∧ planOk (n : Int) rows ∧ e = .returned (.tuple #[.int .i64 (n : Int), .slice A rows.length c]) ∧ OwG w' w.heap.size w'.heap.size A rows.length c rows ∧ Ext w0 w'
theorem run_head_gridT (A : Option Addr) (n c h : Nat) (hn : h ≤ n) (hc : n ≤ c) (r : Int) (hr : r = (h : Int)) (w : World) :
    (Instr.sliceAt 36 (.slice A n c) none (some (.int .i64 r)) none).run Try.prog w = .ok (.slice A h c) w := by
  subst hr
  have h2 : h ≤ c := by omega
  simp [go_sem, Try.underlying36, h2]
-- spec.l16Draw
set_option maxHeartbeats 4000000 in
theorem l16Draw_any (w0 w : World) (p : Nat) (h : Cur w0 w p) :
    Calls Try.prog 120 #[.pointer (some ⟨p, 0, none⟩)] w (RetPlan w0 w) := by
  have hpl := h.lt
  have hold := h.old
  have HC := hide h
  clear h
  have HL4 := hide (OwI.lit w [2, 4, 6, 8] (base := w.heap.size) (by intro x hx; simp at hx; rcases hx with rfl | rfl | rfl | rfl <;> exact ⟨by omega, by omega⟩) (by simp) (Nat.le_refl _))
  have HE1 := hide (Ext.one w (.cells #[.int .i64 2, .int .i64 4, .int .i64 6, .int .i64 8] 3))
  go_enter Try.func120, Try.ntmps120
  go_wp2_with fail
  refine (l01Pick_any w0 _ p _ 4 4 [2, 4, 6, 8] (HC.out.ext HE1.out) HL4.out.ints (fun k hk => by have e : w.heap.size = k := Option.some.inj hk; omega) (by omega) (by omega)).mono ?_
  rintro e w1 ⟨x, hx, rfl, hC1, hg1⟩
  have hn : ∃ n : Nat, x = (n : Int) ∧ 2 ≤ n ∧ n ≤ 8 ∧ n % 2 = 0 := by
    simp at hx
    rcases hx with rfl | rfl | rfl | rfl
    · exact ⟨2, rfl, by omega, by omega, by omega⟩
    · exact ⟨4, rfl, by omega, by omega, by omega⟩
    · exact ⟨6, rfl, by omega, by omega, by omega⟩
    · exact ⟨8, rfl, by omega, by omega, by omega⟩
  obtain ⟨n, rfl, hn2, hn8, hne⟩ := hn
  have HC1 := hide hC1
  have hz1 := hg1.size
  simp only [World.size_alloc] at hz1
  have HNE := hide hne
  clear hC1 hg1 hx
  go_wp2_with fail
  refine (circlePlan_any n w1 hn2 hn8 HNE.out).mono ?_
  rintro e w2 ⟨A2, c2, rfl, ho2, hE2⟩
  have HP2 := hide (circ_ok hn2 hn8 HNE.out)
  have HLN := hide (circP_len n (n - 1))
  obtain ⟨q, hq⟩ : ∃ q, n - 1 = q := ⟨_, rfl⟩
  rw [hq] at ho2 HP2 HLN ⊢
  have hqi : (n : Int) - 1 = (q : Int) := by omega
  have hwq : IntKind.i64.wrap (q : Int) = (q : Int) := by rw [IntKind.wrap_i64]; omega
  have hq1 : 1 ≤ q := by omega
  have hq7 : q ≤ 7 := by omega
  have HG2 := hide (ho2.mono (show w.heap.size ≤ w1.heap.size by omega) (Nat.le_refl _))
  have HC2 := hide (HC1.out.ext hE2)
  generalize circP n q = rows at *
  have hz2 := hE2.size
  clear hne ho2 hE2 hq
  have CB := hide (show Calls Try.prog 91 #[.pointer (some ⟨p, 0, none⟩), .int .i64 4] w2 _ from l01Below_any w0 w2 p 4 HC2.out (by omega) (by omega))
  go_wp2_with fail
  refine CB.out.mono ?_
  rintro e w3 ⟨N, rfl, hN, hC3, hg3⟩
  have HC3 := hide hC3
  have HG3 := hide (HG2.out.past hg3 hpl)
  have hz3 := hg3.size
  clear hC3 hg3 CB
  go_wp2
  go_loopw [5, 7] (fun o i wr => ∃ (k c : Nat) (A : Option Addr) (rows : List (List Int)), k ≤ N ∧ i = .int .i64 (k : Int) ∧ o = .slice A q c ∧ w.heap.size ≤ wr.heap.size ∧ Hid (planOk (n : Int) rows) ∧ Hid (OwG wr w.heap.size wr.heap.size A q c rows) ∧ Hid (Cur w0 wr p)) (fun _ i _ => (intOf i).toNat)
  case atStart => exact ⟨N, _, _, rows, Nat.le_refl _, rfl, rfl, by omega, HP2, HG3, HC3⟩
  case round =>
    obtain ⟨k, c, A, rows, hk, rfl, rfl, hzr, HP, HG, HCr⟩ := hrel
    by_cases hk0 : 0 < k
    · have hki : (0 : Int) < (k : Int) := by omega
      have CB := hide (fun (w' : World) (h : Cur w0 w' p) => l01Below_any w0 w' p q h hq1 (by omega))
      go_wp2_with fail
      refine (CB.out _ HCr.out).mono ?_
      rintro e w4 ⟨r, rfl, hr, hC4, hg4⟩
      have HC4 := hide hC4
      have HG4 := hide (HG.out.past hg4 hpl)
      have hz4 := hg4.size
      clear hC4 hg4
      go_wp2_with fail
      refine (CB.out _ HC4.out).mono ?_
      rintro e w5 ⟨s, rfl, hs, hC5, hg5⟩
      have HC5 := hide hC5
      have HG5 := hide (HG4.out.past hg5 hpl)
      have hz5 := hg5.size
      clear hC5 hg5
      go_wp2_with fail
      refine (swapRounds_any n A q c rows r s w5 HG5.out.grid HP.out hr hs).mono ?_
      rintro e w6 ⟨A6, c6, rfl, ho6, hE6⟩
      have HLR := hide HG5.out.len
      rw [swapP_len, HLR.out] at ho6 ⊢
      have HG6 := hide (ho6.mono (show w.heap.size ≤ w5.heap.size by omega) (Nat.le_refl _))
      have HC6 := hide (HC5.out.ext hE6)
      have HP6 := hide (swap_ok HP.out (by rw [HLR.out]; exact hr) (by rw [HLR.out]; exact hs))
      have hz6 := hE6.size
      clear ho6 hE6
      go_wp2
      go_roundw
      case rel => exact ⟨k - 1, c6, A6, _, by omega, congrArg (Value.int .i64) (by omega), rfl, by omega, HP6, HG6, HC6⟩
      case measure => (simp [intOf] <;> omega)
    · have hki : ¬ (0 : Int) < (k : Int) := by omega
      obtain ⟨w4, rfl⟩ : ∃ w4 : World, w4 = wr := ⟨_, rfl⟩
      go_upto_if 36 with (go_at_call 174; refine (l01Once_any w0 w4 p 4 HCr.out (by omega) (by omega)).mono ?_; rintro e w5 ⟨bb, rfl, hC5, hg5⟩)
      have HC5 := hide hC5
      have HG5 := hide (HG.out.past hg5 hpl)
      have hz5 := hg5.size
      clear hC5 hg5 hk hk0 hki
      go_cut [5] (fun s5 wx => ∃ (m c : Nat) (A : Option Addr) (rows : List (List Int)), m ≤ 14 ∧ s5 = .slice A m c ∧ w.heap.size ≤ wx.heap.size ∧ planOk (n : Int) rows ∧ OwG wx w.heap.size wx.heap.size A m c rows ∧ Cur w0 wx p)
      case first =>
        cases bb with
        | true =>
          have HLR := hide HG5.out.len
          go_wp2_with fail
          refine (doublePlan_any n A q c rows w5 HG5.out.grid HP.out (by omega)).mono ?_
          rintro e w6 ⟨A6, c6, rfl, ho6, hE6⟩
          rw [List.length_append, turnP_len, HLR.out] at ho6 ⊢
          have HG6 := hide (ho6.mono (show w.heap.size ≤ w5.heap.size by omega) (Nat.le_refl _))
          have HC6 := hide (HC5.out.ext hE6)
          have HP6 := hide (double_ok HP.out (by rw [HLR.out]; omega))
          have hz6 := hE6.size
          clear ho6 hE6
          go_wp2
          go_meet
          case rel => exact ⟨q + q, c6, A6, _, by omega, rfl, by omega, HP6.out, HG6.out, HC6.out⟩
        | false =>
          go_wp2
          go_meet
          case rel => exact ⟨q, c, A, rows, by omega, rfl, by omega, HP.out, HG5.out, HC5.out⟩
      case rest =>
        obtain ⟨m, c7, A7, rows7, hm, rfl, hz7, hp7, hg7, hC7⟩ := hcut
        obtain ⟨w7, rfl⟩ : ∃ w7 : World, w7 = wc := ⟨_, rfl⟩
        have HP7 := hide hp7
        have HG7 := hide hg7
        have HC7 := hide hC7
        have hle7 := hg7.grid.le
        have hmx7 := hg7.grid.max
        clear hp7 hg7 hC7 HG HP HCr HG5 HC5
        go_wp2_with fail
        refine (l01Once_any w0 w7 p 6 HC7.out (by omega) (by omega)).mono ?_
        rintro e w8 ⟨bb, rfl, hC8, hg8⟩
        have HC8 := hide hC8
        have HG8 := hide (HG7.out.past hg8 hpl)
        have hz8 := hg8.size
        clear hC8 hg8
        cases bb with
        | true =>
          have e1 : ((m + 1 : Nat) : Int) = (m : Int) + 1 := by omega
          have CB := hide (l01Below_any w0 w8 p (m + 1) HC8.out (by omega) (by omega))
          rw [e1] at CB
          clear e1
          go_wp2_with fail
          refine CB.out.mono ?_
          rintro e w9 ⟨X, rfl, hX, hC9, hg9⟩
          have HC9 := hide hC9.old.1
          have HG9 := hide ((HG8.out.past hg9 hpl).take (show X ≤ m by omega))
          have hXm : X ≤ m := by omega
          have HLR := hide HG9.out.len
          have hsl := fun w' => run_head_gridT A7 m c7 X hXm hle7 (X : Int) rfl w'
          clear hC9 hg9 CB
          go_wp2
          go_ret2
          exact ⟨n, rows7.take X, A7, c7, hn2, hn8, HNE.out, take_ok HP7.out X, by rw [HLR.out]; rfl, by rw [HLR.out]; exact HG9.out, HC9.out⟩
        | false =>
          have HLR := hide HG8.out.len
          go_wp2
          go_ret2
          exact ⟨n, rows7, A7, c7, hn2, hn8, HNE.out, HP7.out, by rw [HLR.out]; rfl, by rw [HLR.out]; exact HG8.out, HC8.out.old.1⟩
-- spec.MakePlan
theorem makePlan_any (A : Option Addr) (n c : Nat) (bs : List Int) (m : Nat) (w : World) (h : Bts w A n c bs) (hm : m ≤ 1000) :
    Calls Try.prog 52 #[.slice A n c, .int .i64 (m : Int)] w fun e w' => ∃ (n : Nat) (rows : List (List Int)) (A : Option Addr) (c : Nat), 2 ≤ n ∧ n ≤ 8 ∧ n % 2 = 0 ∧ planOk (n : Int) rows ∧ e = .returned (.tuple #[.int .i64 (n : Int), .slice A rows.length c]) ∧ Grid w' A rows.length c rows ∧ Ext w w' := by
  have C := hide (l32New_any A n c bs m w h hm)
  clear h
  go_enter Try.func52, Try.ntmps52
  go_wp2_with fail
  refine C.out.mono ?_
  rintro e w1 ⟨p, rfl, hC1⟩
  have CD := hide (l16Draw_any w w1 p hC1)
  clear hC1
  go_wp2_with fail
  refine CD.out.mono ?_
  rintro e w2 ⟨N, rows, B, d, h2, h8, he, hp, rfl, ho, hE⟩
  have H := hide (And.intro h2 (And.intro h8 (And.intro he (And.intro hp (And.intro ho.grid hE)))))
  clear h2 h8 he hp ho hE
  go_wp2
  go_ret2
  exact ⟨N, rows, B, d, H.out.1, H.out.2.1, H.out.2.2.1, H.out.2.2.2.1, rfl, H.out.2.2.2.2.1, H.out.2.2.2.2.2⟩

end Go.Proofs.Ytbaljgdepicigaa
