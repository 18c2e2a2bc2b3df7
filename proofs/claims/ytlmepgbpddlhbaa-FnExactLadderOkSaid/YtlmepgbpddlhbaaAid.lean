/-
  Contracts of the helpers of the laws: copies, comparisons, marks.
-/
import Derived.Test.YtlmepgbpddlhbaaBase
import Derived.Test.YtlmepgbpddlhbaaMathA
import Derived.Test.YtlmepgbpddlhbaaLib
namespace Go.Proofs.Ytlmepgbpddlhbaa
open Go.RowKit
set_option linter.unusedVariables false

/-- A new slice of ints comes back. -/
def RetI (w : World) (xs : List Int) (e : Ending) (w' : World) : Prop := ∃ A c, e = .returned (.slice A xs.length c) ∧ OwI w' w.heap.size A xs.length c xs ∧ Ext w w'
theorem RetI.mk {w w' : World} {xs : List Int} {e : Ending} {A : Option Addr} {n c : Nat} (he : e = .returned (.slice A n c)) (ho : OwI w' w.heap.size A n c xs) (hE : Ext w w') : RetI w xs e w' := by
  have hl := ho.len
  subst hl
  exact ⟨A, c, he, ho, hE⟩
-- toIntS
theorem toIntS_any (A : Option Addr) (n c : Nat) (xs : List Int) (w : World) (h : Ints w A n c xs) (hn : n ≤ 4194304) :
    Calls Try.prog 18 #[.slice A n c] w (RetI w xs) := by
  have HL := hide h.len
  have hle := h.le
  have hmk := run_make_ints n (by omega)
  go_enter Try.func18, Try.ntmps18
  go_wp2
  have h0 := (OwI.zeros w (base := w.heap.size) n (by omega) (Nat.le_refl _))
  go_loopw [4] (fun i wr => ∃ k : Nat, k ≤ n ∧ i = .int .i64 k ∧ OwI wr w.heap.size (some ⟨w.heap.size, 0, none⟩) n n (xs.take k ++ List.replicate (n - k) 0) ∧ Ext w wr) (fun i _ => n - (intOf i).toNat)
  case atStart => exact ⟨0, Nat.zero_le _, rfl, by simpa using h0, Ext.one _ _⟩
  case round =>
    obtain ⟨k, hk, rfl, ho, hE⟩ := hrel
    by_cases hlt : k < n
    · obtain ⟨b, off, x, rfl, hb, hx, wx, hc⟩ := (h.ext hE).get hlt
      obtain ⟨b', off', y, e, hb', hlt', hy, wy, hc', hf'⟩ := ho.get hlt
      cases e
      have ho1 := ho.store rfl hlt wx
      simp only [Nat.zero_add] at hc' hf' ho1
      have HO := hide ho1
      have HX := hide hx; clear hx hy ho h0 ho1
      have HE := hide hE; clear hE
      go_wp2
      go_roundw
      case rel =>
        refine ⟨k + 1, by omega, by go_num, ?_, HE.out.setCell (Nat.le_refl _) _⟩
        have hs := HO.out
        rw [set_fill HL.out HX.out] at hs
        simpa using hs
      case measure => simp [intOf]; omega
    · have : k = n := by omega
      subst this
      have HO := hide ho; clear ho h0
      go_wp2
      go_ret
      have ho := HO.out
      rw [take_len HL.out, Nat.sub_self, List.replicate_zero, List.append_nil] at ho
      exact RetI.mk rfl ho hE
-- eqIntS
theorem eqIntS_any (A : Option Addr) (n c : Nat) (xs : List Int) (A2 : Option Addr) (n2 c2 : Nat) (ys : List Int) (w : World) (h : Ints w A n c xs) (h2 : Ints w A2 n2 c2 ys) :
    Calls Try.prog 14 #[.slice A n c, .slice A2 n2 c2] w fun e w' => e = .returned (.bool (decide (xs = ys))) ∧ Ext w w' := by
  have HL := hide h.len
  have HL2 := hide h2.len
  have hle := h.le
  have hmx := h.max
  by_cases hnn : n = n2
  · subst hnn
    go_enter Try.func14, Try.ntmps14
    go_wp2
    go_loopw [5] (fun i wr => ∃ k : Nat, k ≤ n ∧ i = .int .i64 k ∧ Hid (xs.take k = ys.take k) ∧ Ext w wr) (fun i _ => n - (intOf i).toNat)
    case atStart => exact ⟨0, Nat.zero_le _, rfl, hide (by simp), Ext.refl _⟩
    case round =>
      obtain ⟨k, hk, rfl, HT, hE⟩ := hrel
      by_cases hlt : k < n
      · obtain ⟨b, off, x, rfl, hb, hx, wx, hc⟩ := (h.ext hE).get hlt
        obtain ⟨b', off', y, rfl, hb', hy, wy, hc'⟩ := (h2.ext hE).get hlt
        have HX := hide hx; clear hx
        have HY := hide hy; clear hy
        have HE := hide hE; clear hE
        go_wp2
        go_quiet (fail)
        go_wp2
        · have e : x ≠ y := by simpa using ‹(x != y) = true›
          go_ret
          exact ⟨ret_bool (by symm; rw [decide_eq_false_iff_not]; rintro rfl; have := HX.out.symm.trans HY.out; simp at this; exact e this), HE.out.drewN _⟩
        · have e : x = y := by simpa using ‹(x != y) = false›
          subst e
          go_roundw
          case rel => exact ⟨k + 1, by omega, by go_num, hide (by rw [take_snoc_of HX.out, take_snoc_of HY.out, HT.out]), HE.out.drewN _⟩
          case measure => simp [intOf]; omega
      · have : k = n := by omega
        subst this
        have HE := hide hE; clear hE
        go_wp2
        go_ret
        exact ⟨ret_bool (by symm; rw [decide_eq_true_eq]; have := HT.out; rwa [take_len HL.out, take_len HL2.out] at this), HE.out⟩
  · have hne : ((n : Int) != (n2 : Int)) = true := by rw [bne_iff_ne]; omega
    go_enter Try.func14, Try.ntmps14
    go_wp2
    go_ret
    exact ⟨ret_bool (by symm; rw [decide_eq_false_iff_not]; rintro rfl; exact hnn (HL.out.symm.trans HL2.out)), Ext.refl _⟩
-- frames
theorem i64_of_wf {n : Int} (h : (Lit.int .i64 n).wf = true) : I64 n := by
  simp only [Lit.wf, Bool.and_eq_true, decide_eq_true_eq] at h
  have h1 : IntKind.i64.min = -9223372036854775808 := by decide
  have h2 : IntKind.i64.max = 9223372036854775807 := by decide
  exact ⟨by omega, by omega⟩
theorem ints_of_open {w : World} {a : Addr} {len cap : Nat} {zs : List Int} (hl : len ≤ cap) (hm : cap ≤ maxLen) (hz : zs.length = cap)
    (hcell : ∀ i, i < zs.length → w.cell? (a.add i) = some (.int .i64 (zs.getD i 0))) (hwz : ∀ n ∈ zs, (Lit.int .i64 n).wf = true) : Ints w (some a) len cap (zs.take len) where
  rd := {
    len := by simp; omega
    le := hl
    max := by simp only [maxLen] at hm; omega
    at_ := fun h0 => by
      have h1 := hcell 0 (by omega)
      have hs : a.spot = none := by
        simp only [Addr.add_zero', World.cell?] at h1
        split at h1
        · split at h1
          · cases h1
          · rename_i hs; simpa using hs
        · cases h1
      obtain ⟨b, off, spot⟩ := a
      cases hs
      refine ⟨b, off, rfl, World.block_lt_of_cell? w _ (by simpa using h1), fun k v hv => ?_⟩
      have hk : k < len := by
        have := (List.getElem?_eq_some_iff.1 hv).1
        simp at this; omega
      have h2 := hcell k (by omega)
      rw [Addr.add_lit] at h2
      rw [h2, ← hv]
      have hk' : k < zs.length := by omega
      simp [hk, hk'] }
  wf := fun x hx => i64_of_wf (hwz x (List.mem_of_mem_take hx))

end Go.Proofs.Ytlmepgbpddlhbaa
