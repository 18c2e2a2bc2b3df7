/-
  How many bits are set, in Go's library and in the reference; the elements of a set.
-/
import Derived.Laws.ShiftsVar
import Derived.Test.YtbaljgdepicigaaDoorBase
import Derived.Test.YtbaljgdepicigaaDoorMgA
import Derived.Test.YtbaljgdepicigaaDoorLib
import Derived.Test.YtbaljgdepicigaaDoorAid
import Derived.Test.YtbaljgdepicigaaDoorGrid
import Derived.Test.YtbaljgdepicigaaDoorLibF
import Derived.Test.YtbaljgdepicigaaDoorStep
namespace Go.Proofs.YtbaljgdepicigaaDoor
open Go.RowKit
set_option linter.unusedVariables false

-- math/bits.OnesCount64
def pa1 (x : Int) : Int := IntKind.u64.wrap (bits .and .u64 (x / 2) 6148914691236517205 + bits .and .u64 x 6148914691236517205)
def pa2 (x : Int) : Int := IntKind.u64.wrap (bits .and .u64 (x / 4) 3689348814741910323 + bits .and .u64 x 3689348814741910323)
def pa3 (x : Int) : Int := bits .and .u64 (IntKind.u64.wrap (x / 16 + x)) 1085102592571150095
def pa4 (x : Int) : Int := IntKind.u64.wrap (x + x / 256)
def pa5 (x : Int) : Int := IntKind.u64.wrap (x + x / 65536)
def pa6 (x : Int) : Int := IntKind.u64.wrap (x + x / 4294967296)
def pa7 (x : Int) : Int := bits .and .i64 (wrap64 x) 127
theorem pop_all : ∀ x : Nat, x < 256 → pa7 (pa6 (pa5 (pa4 (pa3 (pa2 (pa1 (x : Int))))))) = (pc x : Int) := by decide +kernel
theorem OnesCount64_small (x : Nat) (hx : x < 256) (w : World) :
    Calls Tryd.prog 79 #[.int .u64 (x : Int)] w fun e w' => e = .returned (.int .i64 (pc x : Int)) ∧ w = w' := by
  have HP := hide (pop_all x hx)
  go_enter Tryd.func79, Tryd.ntmps79
  go_wp2
  go_ret
  refine ⟨ret_int ?_, rfl⟩
  rw [← HP.out]
  unfold pa7 pa6 pa5 pa4 pa3 pa2 pa1
  rfl
-- math/bits.OnesCount
theorem OnesCount_small (x : Nat) (hx : x < 256) (w : World) :
    Calls Tryd.prog 46 #[.int .u64 (x : Int)] w fun e w' => e = .returned (.int .i64 (pc x : Int)) ∧ w = w' := by
  go_enter Tryd.func46, Tryd.ntmps46
  go_wp2_with (go_at_call 79; refine (OnesCount64_small x hx _).mono ?_; rintro e w' ⟨rfl, rfl⟩)
  go_ret
  exact ⟨rfl, rfl⟩
-- words
theorem and_low (m : Nat) (hm : m < 256) : bits BinOp.and IntKind.i64 (m : Int) 1 = ((m % 2 : Nat) : Int) := by
  rw [and_one_i64 _ (by omega) (by omega)]; omega
theorem bit_low (m : Nat) (hm : m < 256) (b : Nat) : (bits BinOp.and IntKind.i64 ((m / 2 ^ b : Nat) : Int) 1 == 1) = m.testBit b := by
  have h : m / 2 ^ b < 256 := Nat.lt_of_le_of_lt (Nat.div_le_self _ _) hm
  rw [and_low _ h, Nat.testBit_eq_decide_div_mod_eq, Bool.eq_iff_iff, beq_iff_eq, decide_eq_true_eq]
  omega
theorem shr_cast (m b : Nat) : (m : Int) / 2 ^ b = ((m / 2 ^ b : Nat) : Int) := by simp
theorem half_cast (m b : Nat) : ((m / 2 ^ b : Nat) : Int) / 2 = ((m / 2 ^ (b + 1) : Nat) : Int) := by
  rw [Nat.pow_succ, ← Nat.div_div_eq_div_mul]; omega
theorem shr_done (m : Nat) (hm : m < 256) {b : Nat} (h : m / 2 ^ b ≠ 0) : b < 8 := by
  rcases Nat.lt_or_ge b 8 with h8 | h8
  · exact h8
  · exfalso
    apply h
    have : 2 ^ 8 ≤ 2 ^ b := Nat.pow_le_pow_right (by omega) h8
    exact Nat.div_eq_of_lt (by omega)
theorem memTo_yes {m k : Nat} (h : m.testBit k = true) : memTo m (k + 1) = memTo m k ++ [(k : Int)] := by rw [memTo_succ, h]; simp
theorem memTo_no {m k : Nat} (h : m.testBit k = false) : memTo m (k + 1) = memTo m k := by rw [memTo_succ, h]; simp
-- impl.membersOf
theorem membersOf_small (m : Nat) (hm : m < 256) (w : World) :
    Calls Tryd.prog 70 #[.int .i64 (m : Int)] w (RetI w (mems m)) := by
  go_enter Tryd.func70, Tryd.ntmps70
  go_wp2
  go_loopw [3, 4] (fun o i wr => ∃ (a : Nat) (Ao : Option Addr) (no co : Nat), a ≤ 8 ∧ i = .int .i64 (a : Int) ∧ o = .slice Ao no co ∧ Hid (OwI wr w.heap.size Ao no co (memTo m a)) ∧ Ext w wr) (fun _ i _ => 9 - (intOf i).toNat)
  case atStart => exact ⟨0, none, 0, 0, Nat.zero_le _, rfl, rfl, hide (OwI.nil _ _), Ext.refl _⟩
  case round =>
    obtain ⟨a, Ao, no, co, ha, rfl, rfl, HO, hE⟩ := hrel
    have HE := hide hE; clear hE
    have hlow : m / 2 ^ a < 256 := Nat.lt_of_le_of_lt (Nat.div_le_self _ _) hm
    have hsc := shr_cast m a
    have hno : no ≤ 8 := by have h1 := HO.out.len; have h2 := memTo_len m a; omega
    by_cases h0 : m / 2 ^ a = 0
    · have HEN := hide (memTo_end m hm a (by omega) h0)
      have hz : ¬ (0 : Int) < ((m / 2 ^ a : Nat) : Int) := by omega
      generalize m / 2 ^ a = q at *
      clear h0
      go_wp2
      go_ret
      rw [← HEN.out]
      exact RetI.mk rfl HO.out HE.out
    · have h8 := shr_done m hm h0
      have HB := hide (bit_low m hm a)
      have hq0 : 0 < m / 2 ^ a := Nat.pos_of_ne_zero h0
      have HMY := hide (memTo_yes (m := m) (k := a))
      have HMN := hide (memTo_no (m := m) (k := a))
      cases htb : m.testBit a with
      | true =>
        rw [htb] at HB HMY
        have HM := hide (HMY.out rfl)
        have hbb := HB.out
        clear htb
        generalize m / 2 ^ a = q at *
        clear h0
        go_wp2_with (at_builtin; refine push_ints rfl (.tmp 16) (.tmp 18) rfl rfl (HO.out.ext (Ext.one _ _)) (some ⟨_, 0, none⟩) 1 1 [(a : Int)] rfl (ints_lit1 _ (base := 0) (a : Int) ⟨by omega, by omega⟩ (Nat.zero_le _)).ints (by omega) (by have := HE.out.size; simp; omega) ?_; intro B1 d1 w3 hb3 hg3 hat3)
        go_roundw
        case rel => exact ⟨a + 1, B1, _, d1, by omega, by go_num, rfl, hide (by rw [HM.out]; exact hb3), (HE.out.alloc _).grown hg3 (fun q hq => (HO.out.block q hq).1)⟩
        case measure => (simp [intOf] <;> omega)
      | false =>
        rw [htb] at HB HMN
        have HM := hide (HMN.out rfl)
        have hbb := HB.out
        clear htb
        generalize m / 2 ^ a = q at *
        clear h0
        go_wp2
        go_roundw
        case rel => exact ⟨a + 1, Ao, _, co, by omega, by go_num, rfl, hide (by rw [HM.out]; exact HO.out), HE.out⟩
        case measure => (simp [intOf] <;> omega)

end Go.Proofs.YtbaljgdepicigaaDoor
