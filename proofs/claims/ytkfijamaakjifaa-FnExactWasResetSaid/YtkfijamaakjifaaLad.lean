/-
  Contracts of the functions on ladders.
-/
import Derived.Test.YtkfijamaakjifaaBase
import Derived.Test.YtkfijamaakjifaaMathA
import Derived.Test.YtkfijamaakjifaaLib
import Derived.Test.YtkfijamaakjifaaAid
namespace Go.Proofs.Ytkfijamaakjifaa
open Go.RowKit
set_option linter.unusedVariables false

-- ladderOk
def ladderOk (xs : List Int) : Prop := (1 ≤ (xs.length : Int) ∧ (xs.length : Int) ≤ 8) ∧ isOrder xs
instance (xs : List Int) : Decidable (ladderOk xs) := by unfold ladderOk; infer_instance
-- spec.l02Perm
theorem info_bool : (Try.prog.info? 4).map (fun i => (i.zero, i.size, i.bytes)) = some (some (.bool false), 1, 1) := by kernel_rfl
def seen (n : Nat) (xs : List Int) : List Value := (List.range n).map fun (j : Nat) => Value.bool (decide ((j : Int) ∈ xs))
theorem seen_nil (n : Nat) : List.replicate n (Value.bool false) = seen n [] := by
  simp [seen, List.map_const']
theorem seen_get {n : Nat} {xs : List Int} {j : Nat} (h : j < n) : (seen n xs)[j]? = some (.bool (decide ((j : Int) ∈ xs))) := by
  simp [seen, h]
theorem seen_set {n : Nat} {xs : List Int} {x : Nat} (h : x < n) : (seen n xs).set x (.bool true) = seen n (xs ++ [(x : Int)]) := by
  apply List.ext_getElem?
  intro j
  rw [List.getElem?_set]
  by_cases e : x = j
  · subst e
    rw [if_pos rfl, seen_get h]
    simp [seen, h]
  · rw [if_neg e]
    by_cases hj : j < n
    · rw [seen_get hj, seen_get hj]
      have : ¬ (j : Int) = (x : Int) := by omega
      simp [this]
    · rw [List.getElem?_eq_none (by simp [seen]; omega), List.getElem?_eq_none (by simp [seen]; omega)]
theorem l02Perm_any (m : Int) (A : Option Addr) (n c : Nat) (xs : List Int) (w : World) (h : Ints w A n c xs) (hsz : n ≤ 4194304) :
    Calls Try.prog 81 #[.int .i64 m, .slice A n c] w fun e w' => e = .returned (.bool (decide ((xs.length : Int) = m ∧ isOrder xs))) ∧ Ext w w' := by
  have HL := hide h.len
  have hle := h.le
  by_cases hm : (n : Int) = m
  · subst hm
    have hmk := run_make_gen (P := Try.prog) Try.underlying87 info_bool rfl n (by omega) (by omega)
    have h0 := Ow.fill w (base := w.heap.size) (E := 4) (.bool false) n (by omega) (Nat.le_refl _)
    rw [seen_nil] at h0
    go_enter Try.func81, Try.ntmps81
    go_wp2
    go_loopw [16] (fun i wr => ∃ k : Nat, k ≤ n ∧ i = .int .i64 k ∧ Hid ((∀ x ∈ xs.take k, 0 ≤ x ∧ x < n) ∧ (xs.take k).Nodup) ∧ Ow wr w.heap.size 4 (some ⟨w.heap.size, 0, none⟩) n n (seen n (xs.take k)) ∧ Ext w wr) (fun i _ => n - (intOf i).toNat)
    case atStart => exact ⟨0, Nat.zero_le _, rfl, hide (by simp), by simpa using h0, Ext.one _ _⟩
    case round =>
      obtain ⟨k, hk, rfl, HR, ho, hE⟩ := hrel
      clear h0
      by_cases hlt : k < n
      · obtain ⟨b, off, x, rfl, hb, hx, wx, hc⟩ := (h.ext hE).get hlt
        have HX := hide hx; clear hx
        have HE := hide hE; clear hE
        by_cases hin : 0 ≤ x ∧ x ≤ (n : Int) - 1
        · obtain ⟨x, rfl⟩ := Int.eq_ofNat_of_zero_le hin.1
          have hxn : x < n := by omega
          obtain ⟨b', off', y, e, hb', hlt', hy, hc', hf'⟩ := ho.get hxn
          cases e
          rw [seen_get hxn] at hy
          cases hy
          have ho1 := ho.store rfl hxn (.bool true)
          rw [seen_set hxn, ← take_snoc_of HX.out] at ho1
          simp only [Nat.zero_add] at hc' hf' ho1
          have HO := hide ho1; clear ho ho1
          by_cases hm : (x : Int) ∈ xs.take k
          · go_wp2_with (first | (go_at_call 71; refine (l01In_any _ _ _ _).mono ?_; rintro e w' ⟨rfl, rfl⟩))
            go_ret
            exact ⟨ret_bool (by symm; rw [decide_eq_false_iff_not]; rintro ⟨_, _, hnd⟩; exact ((nodup_snoc HX.out).1 (nodup_take hnd)).2 hm), HE.out⟩
          · go_wp2_with (first | (go_at_call 71; refine (l01In_any _ _ _ _).mono ?_; rintro e w' ⟨rfl, rfl⟩))
            go_roundw
            case rel =>
              refine ⟨k + 1, by omega, by go_num, hide ⟨?_, (nodup_snoc HX.out).2 ⟨HR.out.2, hm⟩⟩, HO.out, HE.out.setCell (Nat.le_refl _) _⟩
              rw [take_snoc_of HX.out]
              intro y hy
              rcases List.mem_append.1 hy with hy | hy
              · exact HR.out.1 y hy
              · obtain rfl : y = x := by simpa using hy
                omega
            case measure => (simp [intOf] <;> omega)
        · go_wp2_with (first | (go_at_call 71; refine (l01In_any _ _ _ _).mono ?_; rintro e w' ⟨rfl, rfl⟩))
          go_ret
          exact ⟨ret_bool (by symm; rw [decide_eq_false_iff_not]; rintro ⟨_, hb', _⟩; have := hb' x (List.mem_of_getElem? HX.out); rw [HL.out] at this; omega), HE.out⟩
      · have : k = n := by omega
        subst this
        have HE := hide hE; clear hE
        go_wp2
        go_ret
        refine ⟨ret_bool (by symm; rw [decide_eq_true_eq]; have := HR.out; rw [take_len HL.out] at this; exact ⟨by rw [HL.out], by rw [HL.out]; exact this.1, this.2⟩), HE.out⟩
  · have hne : ((n : Int) != m) = true := by rw [bne_iff_ne]; exact hm
    go_enter Try.func81, Try.ntmps81
    go_wp2
    go_ret
    exact ⟨ret_bool (by symm; rw [decide_eq_false_iff_not]; rintro ⟨h1, _⟩; rw [HL.out] at h1; exact hm h1), Ext.refl _⟩

end Go.Proofs.Ytkfijamaakjifaa
