/-
  Contracts of the functions that list a set's elements, for sets of up to ten.
-/
import Derived.Laws.ShiftsVar
import Derived.Test.YtbaljgdepicigaaBase
import Derived.Test.YtbaljgdepicigaaMathA
import Derived.Test.YtbaljgdepicigaaMathD
import Derived.Test.YtbaljgdepicigaaLib
import Derived.Test.YtbaljgdepicigaaAid
import Derived.Test.YtbaljgdepicigaaGrid
import Derived.Test.YtbaljgdepicigaaMathT
import Derived.Test.YtbaljgdepicigaaMathM
namespace Go.Proofs.Ytbaljgdepicigaa
open Go.RowKit
set_option linter.unusedVariables false

-- words of ten
theorem and_low10 (m : Nat) (hm : m < 1024) : bits BinOp.and IntKind.i64 (m : Int) 1 = ((m % 2 : Nat) : Int) := by
  rw [and_one_i64 _ (by omega) (by omega)]; omega
theorem bit_low10 (m : Nat) (hm : m < 1024) (b : Nat) : (bits BinOp.and IntKind.i64 ((m / 2 ^ b : Nat) : Int) 1 == 1) = m.testBit b := by
  have h : m / 2 ^ b < 1024 := Nat.lt_of_le_of_lt (Nat.div_le_self _ _) hm
  rw [and_low10 _ h, Nat.testBit_eq_decide_div_mod_eq, Bool.eq_iff_iff, beq_iff_eq, decide_eq_true_eq]
  omega
theorem shr_castT (m b : Nat) : (m : Int) / 2 ^ b = ((m / 2 ^ b : Nat) : Int) := by simp
theorem half_castT (m b : Nat) : ((m / 2 ^ b : Nat) : Int) / 2 = ((m / 2 ^ (b + 1) : Nat) : Int) := by
  rw [Nat.pow_succ, ← Nat.div_div_eq_div_mul]; omega
theorem shr_done10 (m : Nat) (hm : m < 1024) {b : Nat} (h : m / 2 ^ b ≠ 0) : b < 10 := by
  rcases Nat.lt_or_ge b 10 with h8 | h8
  · exact h8
  · exfalso
    apply h
    have : 2 ^ 10 ≤ 2 ^ b := Nat.pow_le_pow_right (by omega) h8
    exact Nat.div_eq_of_lt (by omega)
theorem elTo_yes {m k : Nat} (h : m.testBit k = true) : elTo m (k + 1) = elTo m k ++ [(k : Int)] := by rw [elTo_succ, h]; simp
theorem elTo_no {m k : Nat} (h : m.testBit k = false) : elTo m (k + 1) = elTo m k := by rw [elTo_succ, h]; simp
theorem shl_ten (a : Nat) (h : a ≤ 10) : wrap64 (2 ^ a) = ((2 ^ a : Nat) : Int) ∧ (2 : Nat) ^ a ≤ 1024 := by
  have h1 : (2 : Nat) ^ a ≤ 2 ^ 10 := Nat.pow_le_pow_right (by omega) h
  have h3 : ((2 ^ a : Nat) : Int) = (2 : Int) ^ a := by simp
  rw [← h3]
  generalize (2 : Nat) ^ a = p at *
  refine ⟨by unfold wrap64; omega, h1⟩
theorem els_mem {m : Nat} {x : Int} (h : x ∈ els m) : ∃ a : Nat, a < 10 ∧ m.testBit a = true ∧ x = (a : Int) := mem_elTo.1 h
theorem leg_nat (far : List (List Int)) (home at_ set p : Nat) : legOf far home at_ set (p : Int) = at2 far at_ p + tour far home p (set - 2 ^ p) := by simp [legOf]
-- impl.membersOf
theorem membersOf_ten (m : Nat) (hm : m < 1024) (w : World) :
    Calls Try.prog 178 #[.int .i64 (m : Int)] w (RetI w (els m)) := by
  go_enter Try.func178, Try.ntmps178
  go_wp2
  go_loopw [3, 4] (fun o i wr => ∃ (a : Nat) (Ao : Option Addr) (no co : Nat), a ≤ 10 ∧ i = .int .i64 (a : Int) ∧ o = .slice Ao no co ∧ Hid (OwI wr w.heap.size Ao no co (elTo m a)) ∧ Ext w wr) (fun _ i _ => 11 - (intOf i).toNat)
  case atStart => exact ⟨0, none, 0, 0, Nat.zero_le _, rfl, rfl, hide (OwI.nil _ _), Ext.refl _⟩
  case round =>
    obtain ⟨a, Ao, no, co, ha, rfl, rfl, HO, hE⟩ := hrel
    have HE := hide hE; clear hE
    have hlow : m / 2 ^ a < 1024 := Nat.lt_of_le_of_lt (Nat.div_le_self _ _) hm
    have hsc := shr_castT m a
    have hno : no ≤ 10 := by have h1 := HO.out.len; have h2 := elTo_len m a; omega
    by_cases h0 : m / 2 ^ a = 0
    · have HEN := hide (elTo_end hm (by omega) h0)
      have hz : ¬ (0 : Int) < ((m / 2 ^ a : Nat) : Int) := by omega
      generalize m / 2 ^ a = q at *
      clear h0
      go_wp2
      go_ret
      rw [← HEN.out]
      exact RetI.mk rfl HO.out HE.out
    · have h8 := shr_done10 m hm h0
      have HB := hide (bit_low10 m hm a)
      have hq0 : 0 < m / 2 ^ a := Nat.pos_of_ne_zero h0
      have HMY := hide (elTo_yes (m := m) (k := a))
      have HMN := hide (elTo_no (m := m) (k := a))
      cases htb : m.testBit a with
      | true =>
        rw [htb] at HB HMY
        have HM := hide (HMY.out rfl)
        have hbb := HB.out
        clear htb
        generalize m / 2 ^ a = q at *
        clear h0
        go_wp2_with (at_builtin; refine push_ints rfl (.tmp 16) (.tmp 18) rfl rfl (HO.out.ext (Ext.one _ _)) (some ⟨_, 0, none⟩) 1 1 [(a : Int)] rfl (ints_lit1 _ (base := 0) (a : Int) ⟨by omega, by omega⟩ (Nat.zero_le _)).ints (by omega) (by have := HE.out.size; simp; omega) ?_; intro B1 d1 w3 hb3 hg3 hat3)
        go_roundw
        case rel => exact ⟨a + 1, B1, _, d1, by omega, by go_num, rfl, hide (by rw [HM.out]; exact hb3), (HE.out.alloc _).grown hg3 (fun q hq => (HO.out.block q hq).1)⟩
        case measure => (simp [intOf] <;> omega)
      | false =>
        rw [htb] at HB HMN
        have HM := hide (HMN.out rfl)
        have hbb := HB.out
        clear htb
        generalize m / 2 ^ a = q at *
        clear h0
        go_wp2
        go_roundw
        case rel => exact ⟨a + 1, Ao, _, co, by omega, by go_num, rfl, hide (by rw [HM.out]; exact HO.out), HE.out⟩
        case measure => (simp [intOf] <;> omega)
-- spec.l02List
theorem l02List_ten (m : Nat) (hm : m < 1024) (w : World) :
    Calls Try.prog 170 #[.int .i64 (m : Int)] w (RetI w (els m)) := by
  go_enter Try.func170, Try.ntmps170
  go_wp2
  go_loopw [0, 3, 4] (fun n o i wr => ∃ (a : Nat) (Ao : Option Addr) (no co : Nat), a ≤ 10 ∧ n = .int .i64 ((m / 2 ^ a : Nat) : Int) ∧ i = .int .i64 (a : Int) ∧ o = .slice Ao no co ∧ Hid (OwI wr w.heap.size Ao no co (elTo m a)) ∧ Ext w wr) (fun _ _ i _ => 11 - (intOf i).toNat)
  case atStart => exact ⟨0, _, _, _, Nat.zero_le _, by simp, rfl, rfl, hide (ints_lit0 w (Nat.le_refl _)), Ext.one _ _⟩
  case round =>
    obtain ⟨a, Ao, no, co, ha, rfl, rfl, rfl, HO, hE⟩ := hrel
    have HE := hide hE; clear hE
    have hlow : m / 2 ^ a < 1024 := Nat.lt_of_le_of_lt (Nat.div_le_self _ _) hm
    have hno : no ≤ 10 := by have h1 := HO.out.len; have h2 := elTo_len m a; omega
    by_cases h0 : m / 2 ^ a = 0
    · have HEN := hide (elTo_end hm (by omega) h0)
      have hz : ¬ (0 : Int) < ((m / 2 ^ a : Nat) : Int) := by omega
      generalize m / 2 ^ a = q at *
      clear h0
      go_wp2
      go_ret
      rw [← HEN.out]
      exact RetI.mk rfl HO.out HE.out
    · have h8 := shr_done10 m hm h0
      have HB := hide (bit_low10 m hm a)
      have HH := hide (half_castT m a)
      have hq0 : 0 < m / 2 ^ a := Nat.pos_of_ne_zero h0
      have HMY := hide (elTo_yes (m := m) (k := a))
      have HMN := hide (elTo_no (m := m) (k := a))
      cases htb : m.testBit a with
      | true =>
        rw [htb] at HB HMY
        have HM := hide (HMY.out rfl)
        have hbb := HB.out
        clear htb
        generalize m / 2 ^ a = q at *
        clear h0
        go_wp2_with (at_builtin; refine push_ints rfl (.tmp 13) (.tmp 15) rfl rfl (HO.out.ext (Ext.one _ _)) (some ⟨_, 0, none⟩) 1 1 [(a : Int)] rfl (ints_lit1 _ (base := 0) (a : Int) ⟨by omega, by omega⟩ (Nat.zero_le _)).ints (by omega) (by have := HE.out.size; simp; omega) ?_; intro B1 d1 w3 hb3 hg3 hat3)
        go_roundw
        case rel => exact ⟨a + 1, B1, _, d1, by omega, by rw [← HH.out], by go_num, rfl, hide (by rw [HM.out]; exact hb3), (HE.out.alloc _).grown hg3 (fun q hq => (HO.out.block q hq).1)⟩
        case measure => (simp [intOf] <;> omega)
      | false =>
        rw [htb] at HB HMN
        have HM := hide (HMN.out rfl)
        have hbb := HB.out
        clear htb
        generalize m / 2 ^ a = q at *
        clear h0
        go_wp2
        go_roundw
        case rel => exact ⟨a + 1, Ao, _, co, by omega, by rw [← HH.out], by go_num, rfl, hide (by rw [HM.out]; exact HO.out), HE.out⟩
        case measure => (simp [intOf] <;> omega)

end Go.Proofs.Ytbaljgdepicigaa
