/-
  Contracts of the library functions that take a function, and of slices.Max.
-/
import Derived.Shelf.Abstract
import Derived.Test.YtbaljgdepicigaaDoorBase
import Derived.Test.YtbaljgdepicigaaDoorMgA
import Derived.Test.YtbaljgdepicigaaDoorLib
import Derived.Test.YtbaljgdepicigaaDoorAid
import Derived.Test.YtbaljgdepicigaaDoorGrid
namespace Go.Proofs.YtbaljgdepicigaaDoor
open Go.RowKit
set_option linter.unusedVariables false

-- IndexFunc ints
/-- The function value g, bound to lb, answers p for every x of xs, in every world in which what lay in w lies. -/
def PredI (g : Nat) (lb : Array Value) (p : Int → Bool) (xs : List Int) (w : World) : Prop :=
  ∀ (W : World) (x : Int), x ∈ xs → Ext w W → Calls Tryd.prog g (#[.int .i64 x] ++ lb) W fun e w' => e = .returned (.bool (p x)) ∧ Ext W w'
theorem PredI.later {g : Nat} {lb : Array Value} {p : Int → Bool} {xs : List Int} {w w' : World} (h : PredI g lb p xs w) (hE : Ext w w') : PredI g lb p xs w' :=
  fun W x hx hE' => h W x hx (hE.trans hE')
theorem IndexFunc_any (g : Nat) (lb : Array Value) (p : Int → Bool) (eg : Enters Tryd.prog g) (A : Option Addr) (n c : Nat) (xs : List Int) (w : World) (h : Ints w A n c xs) (hp : PredI g lb p xs w) :
    Calls Tryd.prog 61 #[.slice A n c, .func (.func g) #[] lb] w fun e w' => e = .returned (.int .i64 (idxF p xs)) ∧ Ext w w' := by
  have hn := h.max
  have hl := h.le
  have HL := hide h.len
  have HP := hide hp; clear hp
  unfold Enters at eg
  go_enter Tryd.func61, Tryd.ntmps61
  go_wp2
  go_loopw [8] (fun i wr => ∃ k : Nat, k ≤ n ∧ i = .int .i64 k ∧ Hid (∀ y ∈ xs.take k, p y = false) ∧ Ext w wr) (fun i _ => n - (intOf i).toNat)
  case atStart => exact ⟨0, Nat.zero_le _, rfl, hide (by simp), Ext.refl _⟩
  case round =>
    obtain ⟨k, hk, rfl, HV, hE⟩ := hrel
    by_cases hlt : k < n
    · obtain ⟨b, off, x, rfl, hb, hx, wx, hc⟩ := (h.ext hE).get hlt
      have HC := hide (HP.out wr x (List.mem_of_getElem? hx) hE)
      have HX := hide hx; have HE := hide hE; clear hx hE
      cases hpx : p x with
      | true =>
        rw [hpx] at HC
        have HPX := hide hpx; clear hpx
        go_wp2_with (go_at_fn g; refine HC.out.mono ?_; rintro e w1 ⟨rfl, hE1⟩)
        go_ret
        exact ⟨ret_int (idxF_hit HV.out HX.out HPX.out).symm, HE.out.trans hE1⟩
      | false =>
        rw [hpx] at HC
        have HPX := hide hpx; clear hpx
        go_wp2_with (go_at_fn g; refine HC.out.mono ?_; rintro e w1 ⟨rfl, hE1⟩)
        go_roundw
        case rel =>
          refine ⟨k + 1, by omega, by go_num, hide ?_, HE.out.trans hE1⟩
          rw [take_snoc_of HX.out]
          intro y hy
          rcases List.mem_append.1 hy with hy | hy
          · exact HV.out y hy
          · obtain rfl : y = x := by simpa using hy
            exact HPX.out
        case measure => (simp [intOf] <;> omega)
    · have : k = n := by omega
      subst this
      have HE := hide hE; clear hE
      go_wp2
      go_ret
      exact ⟨ret_int (idxF_miss (by have := HV.out; rwa [take_len HL.out] at this)).symm, HE.out⟩
-- ContainsFunc ints
theorem ContainsFunc_any (g : Nat) (lb : Array Value) (p : Int → Bool) (eg : Enters Tryd.prog g) (A : Option Addr) (n c : Nat) (xs : List Int) (w : World) (h : Ints w A n c xs) (hp : PredI g lb p xs w) :
    Calls Tryd.prog 82 #[.slice A n c, .func (.func g) #[] lb] w fun e w' => e = .returned (.bool (xs.any p)) ∧ Ext w w' := by
  have HI := hide h; have HP := hide hp; have EG := hide eg
  clear h hp eg
  go_enter Tryd.func82, Tryd.ntmps82
  go_wp2_with (go_at_call 61; refine (IndexFunc_any g lb p EG.out _ _ _ xs _ HI.out HP.out).mono ?_; rintro e w1 ⟨rfl, hE1⟩)
  go_ret
  exact ⟨ret_bool (by rw [Bool.eq_iff_iff, decide_eq_true_eq, idxF_ge, List.any_eq_true]), hE1⟩
-- allWithin
theorem allWithin_pred (lo hi : Int) (xs : List Int) (w : World) (a b : Nat) (ha : w.cell? ⟨a, 0, none⟩ = some (.int .i64 lo)) (hb : w.cell? ⟨b, 0, none⟩ = some (.int .i64 hi)) :
    PredI 83 #[.pointer (some ⟨a, 0, none⟩), .pointer (some ⟨b, 0, none⟩)] (fun x => !decide (lo ≤ x ∧ x ≤ hi)) xs w := by
  intro W x _ hE
  have ha' := hE.get ha
  have hb' := hE.get hb
  clear ha hb hE
  go_enter Tryd.func83, Tryd.ntmps83
  go_wp2_with (go_at_call 44; refine (within_any _ _ _ _).mono ?_; rintro e w' ⟨rfl, rfl⟩)
  go_ret
  exact ⟨ret_bool (by by_cases h1 : lo ≤ x <;> by_cases h2 : x ≤ hi <;> simp [h1, h2]), Ext.refl _⟩
theorem allWithin_any (A : Option Addr) (n c : Nat) (xs : List Int) (lo hi : Int) (w : World) (h : Ints w A n c xs) :
    Calls Tryd.prog 52 #[.slice A n c, .int .i64 lo, .int .i64 hi] w fun e w' => e = .returned (.bool (decide (∀ x ∈ xs, lo ≤ x ∧ x ≤ hi))) ∧ Ext w w' := by
  have HE0 := hide (((Ext.refl w).alloc (.cells #[.int .i64 lo] 3)).alloc (.cells #[.int .i64 hi] 3))
  have HI := hide (h.ext HE0.out); clear h
  have eg : Enters Tryd.prog 83 := enters_of Tryd.func83 (by kernel_rfl) rfl
  have EG := hide eg; clear eg
  go_enter Tryd.func52, Tryd.ntmps52
  go_wp2_with (go_at_call 82; refine (ContainsFunc_any _ _ (fun x => !decide (lo ≤ x ∧ x ≤ hi)) EG.out _ _ _ xs _ HI.out (allWithin_pred lo hi xs _ _ _ (by simp) (by simp))).mono ?_; rintro e w1 ⟨rfl, hE1⟩)
  go_ret
  refine ⟨ret_bool ?_, HE0.out.trans hE1⟩
  rw [Bool.eq_iff_iff, decide_eq_true_eq]
  simp
-- slices.Max
theorem Max_any (A : Option Addr) (n c : Nat) (xs : List Int) (w : World) (h : Ints w A n c xs) (h0 : 0 < n) (hp : ∀ x ∈ xs, 0 ≤ x) :
    Calls Tryd.prog 53 #[.slice A n c] w fun e w' => e = .returned (.int .i64 (maxL xs)) ∧ w = w' := by
  have hn := h.max
  have hl := h.le
  have HL := hide h.len
  have HP := hide hp; clear hp
  obtain ⟨b, off, x0, rfl, hb, hx0, wx0, hc0⟩ := h.get h0
  have hc0' := hc0
  simp only [Nat.add_zero] at hc0'
  have h01 := HP.out x0 (List.mem_of_getElem? hx0)
  have HX0 := hide hx0; clear hx0 hc0
  go_enter Tryd.func53, Tryd.ntmps53
  go_wp2
  go_loop [3, 4] (fun m i => ∃ k : Nat, 1 ≤ k ∧ k ≤ n ∧ i = .int .i64 k ∧ m = .int .i64 (maxL (xs.take k))) (fun _ i => n - (intOf i).toNat)
  case atStart => exact ⟨1, by omega, by omega, rfl, by
    rw [show (1 : Nat) = 0 + 1 from rfl, take_snoc_of HX0.out, List.take_zero]
    simp [maxL]; omega⟩
  case round =>
    obtain ⟨k, hk1, hk, rfl, rfl⟩ := hrel
    clear hc0'
    by_cases hlt : k < n
    · obtain ⟨b', off', x, e, hb', hx, wx, hc⟩ := h.get hlt
      cases e
      have HS := hide (maxL_take_snoc HP.out hx); clear hx
      go_wp2
      go_round
      case rel => exact ⟨k + 1, by omega, by omega, by go_num, by rw [HS.out]; exact congrArg _ (by split <;> omega)⟩
      case measure => (simp [intOf] <;> omega)
    · have : k = n := by omega
      subst this
      go_wp2
      go_ret
      exact ⟨ret_int (by rw [take_len HL.out]), rfl⟩
-- slices.Clone
theorem lit_nil (w : World) {base : Nat} (hb : base ≤ w.heap.size) : OwI (w.alloc (.cells #[] 3)) base (some ⟨w.heap.size, 0, none⟩) 0 0 [] := OwI.lit w [] (by simp) (by simp) hb
theorem Clone_any (A : Option Addr) (n c : Nat) (xs : List Int) (w : World) (h : Ints w A n c xs) (hn : n ≤ 1073741824) :
    Calls Tryd.prog 51 #[.slice A n c] w (RetI w xs) := by
  have hnil := eql_nil_sl
  rcases A with _ | ad
  · have hn0 : n = 0 := by
      rcases Nat.eq_zero_or_pos n with h0 | h0
      · exact h0
      · obtain ⟨b, off, e, _⟩ := h.rd.at_ h0
        cases e
    subst hn0
    have hx : xs = [] := List.eq_nil_of_length_eq_zero h.len
    subst hx
    clear h
    go_enter Tryd.func51, Tryd.ntmps51
    go_wp2
    go_ret
    exact RetI.mk rfl (OwI.nil _ _) (Ext.refl _)
  · have HI := hide (h.ext (Ext.one w (.cells #[] 3)))
    have HO := hide (lit_nil w (Nat.le_refl _))
    clear h
    go_enter Tryd.func51, Tryd.ntmps51
    go_wp2_with (at_builtin; refine push_ints rfl (.tmp 5) (.tmp 6) rfl rfl HO.out (some ad) n c xs rfl HI.out (by omega) (by simp) ?_; intro B1 d1 w3 hb3 hg3 hat3)
    go_ret
    refine RetI.mk rfl (by simpa using hb3) ?_
    exact (Ext.one w _).grown hg3 (fun k hk => by cases hk; exact Nat.le_refl _)

end Go.Proofs.YtbaljgdepicigaaDoor
