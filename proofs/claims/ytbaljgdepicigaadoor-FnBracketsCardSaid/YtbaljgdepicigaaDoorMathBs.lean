/-
  Plain lemmas on seeds: how late two of them meet, and the bracket of an order. No program.
-/
import Derived.Test.YtbaljgdepicigaaDoorBase
import Derived.Test.YtbaljgdepicigaaDoorMgA
import Derived.Test.YtbaljgdepicigaaDoorMathV
namespace Go.Proofs.YtbaljgdepicigaaDoor
set_option linter.unusedVariables false

/-- How often 1 doubles until it is no longer less. -/
def lateF (m : Int) : Nat := if m ≤ 1 then 0 else if m ≤ 2 then 1 else if m ≤ 4 then 2 else 3
theorem late_iff {m : Int} (h1 : 1 ≤ m) (h8 : m ≤ 8) {k : Nat} (hk : k ≤ lateF m) : (((2 ^ k : Nat) : Int) < m ↔ k < lateF m) ∧ lateF m ≤ 3 := by
  have key : ∀ m : Nat, m < 9 → 1 ≤ m → ∀ k : Nat, k < 4 → k ≤ lateF (m : Int) → (((2 ^ k : Nat) : Int) < (m : Int) ↔ k < lateF (m : Int)) ∧ lateF (m : Int) ≤ 3 := by decide
  have hm := key m.toNat (by omega) (by omega) k
  rw [show ((m.toNat : Nat) : Int) = m by omega] at hm
  have h3 : lateF m ≤ 3 := by
    unfold lateF
    split
    · omega
    · split
      · omega
      · split <;> omega
  exact hm (by omega) hk
def SeedF (q i k : Nat) (x y : Int) : Prop := 1 ≤ meetR i k ∧ meetR i k = meetR k i ∧ 1 ≤ x ∧ x ≤ (pw2 q : Int) ∧ x ≠ y ∧ (q : Int) + 1 - (lateF (max x y) : Int) ≤ (meetR i k : Int) ∧ ¬ (meetR i k = 1 ∧ i / 2 = k / 2 ∧ ¬ x + y = (pw2 q : Int) + 1) ∧ meetR i k ≤ 3
instance (q i k : Nat) (x y : Int) : Decidable (SeedF q i k x y) := by unfold SeedF; infer_instance
theorem seed_1 : ∀ i : Nat, i < 2 → ∀ k : Nat, k < 2 → i ≠ k → SeedF 1 i k ((seedTo 1).getD i 0) ((seedTo 1).getD k 0) := by decide +kernel
theorem seed_2 : ∀ i : Nat, i < 4 → ∀ k : Nat, k < 4 → i ≠ k → SeedF 2 i k ((seedTo 2).getD i 0) ((seedTo 2).getD k 0) := by decide +kernel
theorem seed_3 : ∀ i : Nat, i < 8 → ∀ k : Nat, k < 8 → i ≠ k → SeedF 3 i k ((seedTo 3).getD i 0) ((seedTo 3).getD k 0) := by decide +kernel
theorem seed_all {q : Nat} (h : q < 4) (h1 : 1 ≤ q) {i k : Nat} (hi : i < pw2 q) (hk : k < pw2 q) (hne : i ≠ k) : SeedF q i k ((seedTo q).getD i 0) ((seedTo q).getD k 0) := by
  match q, h, h1 with
  | 1, _, _ => exact seed_1 i hi k hk hne
  | 2, _, _ => exact seed_2 i hi k hk hne
  | 3, _, _ => exact seed_3 i hi k hk hne
theorem seedTo_nodup : ∀ q : Nat, q < 4 → (seedTo q).Nodup := by decide
theorem seedTo_top : ∀ q : Nat, q < 4 → (pw2 q : Int) ∈ seedTo q := by decide
theorem seedTo_head : ∀ q : Nat, q < 4 → (seedTo q)[0]? = some 1 := by decide
theorem lg_pw2 : ∀ q : Nat, q < 4 → lg (pw2 q : Int) = q ∧ brkSize (pw2 q : Int) := by decide
theorem seedOrder_pw2 {q : Nat} (h : q < 4) : seedOrder (pw2 q : Int) = seedTo q := by
  unfold seedOrder; rw [if_pos (lg_pw2 q h).2, (lg_pw2 q h).1]
/-- The bracket of an order of some players. -/
structure SeedB (q m : Nat) (o b : List Int) : Prop where
  len : b.length = pw2 q
  brk8 : brk 8 b
  head : b.getD 0 0 = o.getD 0 0
  neg : (-1 : Int) ∈ b ↔ m < pw2 q
theorem seed_brk {q m : Nat} {o : List Int} (hq : q < 4) (h1 : 1 ≤ m) (hm : m ≤ pw2 q) (ho : isPerm m o) : SeedB q m o (seedBracket o (pw2 q : Int)) := by
  obtain ⟨hl, hn, hb⟩ := ho
  have hpw : pw2 q ≤ 8 := pw2_mono (show q ≤ 3 by omega)
  have e : seedBracket o (pw2 q : Int) = (seedTo q).map (seedAt o) := by
    unfold seedBracket
    rw [if_pos ⟨(lg_pw2 q hq).2, by omega, fun x hx => (hb x hx).1, hn⟩, seedOrder_pw2 hq]
  rw [e]
  have hwf := seed_wf q hq
  have hin : ∀ x : Int, 1 ≤ x → x ≤ (m : Int) → ∃ y, o[(x - 1).toNat]? = some y ∧ seedAt o x = y ∧ 0 ≤ y ∧ y < (m : Int) := fun x h1 h2 => by
    have hlt : (x - 1).toNat < o.length := by omega
    have hy := List.getElem?_eq_getElem hlt
    refine ⟨_, hy, ?_, hb _ (List.getElem_mem hlt)⟩
    unfold seedAt
    rw [if_pos (by omega), List.getD_eq_getElem?_getD, hy]; rfl
  have hout : ∀ x : Int, (m : Int) < x → seedAt o x = -1 := fun x h => by unfold seedAt; rw [if_neg (by omega)]
  have hval : ∀ y ∈ (seedTo q).map (seedAt o), -1 ≤ y ∧ y ≤ 8 - 1 := fun y hy => by
    obtain ⟨x, hx, rfl⟩ := List.mem_map.1 hy
    have hx1 := (hwf x hx).1
    by_cases h : x ≤ (m : Int)
    · obtain ⟨y, _, e, h0, h2⟩ := hin x hx1 h
      rw [e]; omega
    · rw [hout x (by omega)]; omega
  have hhd := seedTo_head q hq
  obtain ⟨y0, hy0, e0, h00, _⟩ := hin 1 (by omega) (by omega)
  have hb0 : ((seedTo q).map (seedAt o))[0]? = some y0 := by rw [List.getElem?_map, hhd, ← e0]; rfl
  refine ⟨by rw [List.length_map, seedTo_len], ⟨?_, hval, ?_, ?_⟩, ?_, ?_⟩
  · rw [List.length_map, seedTo_len]
    exact (lg_pw2 q hq).2
  · rw [ne_nil_mem]
    exact ⟨y0, mem_plrs.2 ⟨List.mem_of_getElem? hb0, h00⟩⟩
  · unfold plrs
    rw [List.filter_map]
    refine List.pairwise_map.2 (((seedTo_nodup q hq).filter _).imp_of_mem fun {x y} hx hy hne he => hne ?_)
    have hx' := List.mem_filter.1 hx
    have hy' := List.mem_filter.1 hy
    have px : 0 ≤ seedAt o x := of_decide_eq_true hx'.2
    have py : 0 ≤ seedAt o y := of_decide_eq_true hy'.2
    have hx1 := (hwf x hx'.1).1
    have hy1 := (hwf y hy'.1).1
    have hxm : x ≤ (m : Int) := Int.not_lt.1 fun h => by rw [hout x h] at px; omega
    have hym : y ≤ (m : Int) := Int.not_lt.1 fun h => by rw [hout y h] at py; omega
    obtain ⟨u, gu, eu, _⟩ := hin x hx1 hxm
    obtain ⟨v, gv, ev, _⟩ := hin y hy1 hym
    rw [eu, ev] at he
    rw [he] at gu
    have := (List.getElem?_inj (i := (x - 1).toNat) (j := (y - 1).toNat) (by omega) hn).1 (gu.trans gv.symm)
    omega
  · rw [List.getD_eq_getElem?_getD, hb0, List.getD_eq_getElem?_getD]
    have : o[0]? = some y0 := hy0
    rw [this]
  · constructor
    · intro h
      obtain ⟨x, hx, e⟩ := List.mem_map.1 h
      have hx2 := hwf x hx
      refine Decidable.byContradiction fun hlt => ?_
      obtain ⟨y, _, e2, h0, _⟩ := hin x hx2.1 (by omega)
      omega
    · intro h
      exact List.mem_map.2 ⟨_, seedTo_top q hq, hout _ (by omega)⟩

end Go.Proofs.YtbaljgdepicigaaDoor
