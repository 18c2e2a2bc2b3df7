/-
  Plain lemmas on rounds of a bracket: no program.
-/
import Derived.Test.YtbaljgdepicigaaDoorBase
import Derived.Test.YtbaljgdepicigaaDoorMgA
namespace Go.Proofs.YtbaljgdepicigaaDoor
set_option linter.unusedVariables false

/-! ### Whom one beats on the way -/
def mate (i : Nat) : Nat := i ^^^ 1
theorem mate_lt : ∀ i : Nat, i < 8 → mate i < 8 ∧ (i < 2 → mate i < 2) ∧ (i < 4 → mate i < 4) ∧ mate (mate i) = i ∧ mate i ≠ i := by decide
theorem mate_in {s : Int} {br : List Int} (h : brk s br) (h1 : 1 < br.length) {i : Nat} (hi : i < br.length) : mate i < br.length := by
  have hs := h.1
  unfold brkSize at hs
  have := mate_lt i (by omega)
  omega
/-- The first place of a player. -/
def spot (br : List Int) (a : Int) : Nat := (idx br a).toNat
theorem spot_get {br : List Int} {a : Int} (h : a ∈ br) : br[spot br a]? = some a := idx_get (idx_ge.2 h)
theorem spot_lt {br : List Int} {a : Int} (h : a ∈ br) : spot br a < br.length := (List.getElem?_eq_some_iff.1 (spot_get h)).1
theorem plrs_cons (x : Int) (r : List Int) : plrs (x :: r) = (if 0 ≤ x then [x] else []) ++ plrs r := by simp only [plrs, List.filter_cons]; by_cases e : 0 ≤ x <;> simp [e]
theorem plrs_uniq {br : List Int} (h : (plrs br).Nodup) {a : Int} (ha : 0 ≤ a) : ∀ {i j : Nat}, br[i]? = some a → br[j]? = some a → i = j := by
  induction br with
  | nil => intro i j hi; simp at hi
  | cons x r ih =>
    intro i j hi hj
    rw [plrs_cons, List.nodup_append] at h
    have ih' := @ih h.2.1
    cases i with
    | zero =>
      cases j with
      | zero => rfl
      | succ j =>
        simp at hi hj
        subst hi
        exact absurd rfl (h.2.2 x (by simp [ha]) x (mem_plrs.2 ⟨List.mem_of_getElem? hj, ha⟩))
    | succ i =>
      cases j with
      | zero =>
        simp at hi hj
        subst hj
        exact absurd rfl (h.2.2 x (by simp [ha]) x (mem_plrs.2 ⟨List.mem_of_getElem? hi, ha⟩))
      | succ j =>
        simp at hi hj
        rw [ih' hi hj]
/-- The one at the other side of a game is beaten. -/
def beatAt (xs : List Int) (a : Int) (br : List Int) (i : Nat) : List Int :=
  if br.getD i (-1) = a ∧ 0 ≤ br.getD (mate i) (-1) ∧ 0 ≤ a ∧ bts xs a.toNat (br.getD (mate i) (-1)).toNat then [br.getD (mate i) (-1)] else []
def beatTo (xs : List Int) (a : Int) (br : List Int) : Nat → List Int
  | 0 => []
  | k + 1 => beatTo xs a br k ++ beatAt xs a br k
theorem beatAt_no {xs : List Int} {a : Int} {br : List Int} {i : Nat} (h : ¬ br.getD i (-1) = a ∨ a < 0) : beatAt xs a br i = [] := by
  unfold beatAt; rw [if_neg]; rintro ⟨h1, _, h3, _⟩; omega
theorem beatTo_none {xs : List Int} {a : Int} {br : List Int} {k : Nat} (h : ∀ i, i < k → ¬ br.getD i (-1) = a ∨ a < 0) : beatTo xs a br k = [] := by
  induction k with
  | zero => rfl
  | succ k ih => simp only [beatTo, ih fun i hi => h i (by omega), beatAt_no (h k (by omega)), List.append_nil]
theorem beatTo_one {xs : List Int} {a : Int} {br : List Int} {k j : Nat} (hj : j < k) (h : ∀ i, i < k → i ≠ j → ¬ br.getD i (-1) = a ∨ a < 0) : beatTo xs a br k = beatAt xs a br j := by
  induction k with
  | zero => omega
  | succ k ih =>
    simp only [beatTo]
    by_cases e : j = k
    · subst e
      rw [beatTo_none fun i hi => h i (by omega) (by omega), List.nil_append]
    · rw [ih (by omega) fun i hi => h i (by omega), beatAt_no (h k (by omega) (by omega)), List.append_nil]
theorem beatTo_spot {xs : List Int} {a : Int} {br : List Int} (hn : (plrs br).Nodup) (ha : 0 ≤ a) (hm : a ∈ br) : beatTo xs a br br.length = beatAt xs a br (spot br a) := by
  refine beatTo_one (spot_lt hm) fun i hi hne => .inl fun e => hne ?_
  have hi' : br[i]? = some a := by rw [List.getD, List.getElem?_eq_getElem hi] at e; rw [List.getElem?_eq_getElem hi]; simpa using e
  exact plrs_uniq hn ha hi' (spot_get hm)
theorem beatTo_not {xs : List Int} {a : Int} {br : List Int} (hm : ¬ (0 ≤ a ∧ a ∈ br)) : beatTo xs a br br.length = [] := by
  refine beatTo_none fun i hi => ?_
  by_cases h0 : 0 ≤ a
  · refine .inl fun e => hm ⟨h0, ?_⟩
    rw [List.getD, List.getElem?_eq_getElem hi] at e
    rw [← e]; simp
  · right; omega
def beaten (xs : List Int) (a : Int) (br : List Int) : List Int := if 1 < br.length then beatTo xs a br br.length ++ beaten xs a (nextR xs br) else []
termination_by br.length
decreasing_by rw [nextR_len]; omega
theorem beaten_step {xs : List Int} {a : Int} {br : List Int} (h : 1 < br.length) : beaten xs a br = beatTo xs a br br.length ++ beaten xs a (nextR xs br) := by rw [beaten, if_pos h]
theorem beaten_end {xs : List Int} {a : Int} {br : List Int} (h : ¬ 1 < br.length) : beaten xs a br = [] := by rw [beaten, if_neg h]
theorem beaten_out (xs : List Int) (a : Int) (br : List Int) (h : ¬ (0 ≤ a ∧ a ∈ br)) : beaten xs a br = [] := by
  rw [beaten]
  split
  · rw [beatTo_not h, beaten_out xs a (nextR xs br) (fun hh => h ⟨hh.1, nextR_mem xs br a hh.2⟩), List.nil_append]
  · rfl
termination_by br.length
decreasing_by rw [nextR_len]; omega
theorem beatAt_len (xs : List Int) (a : Int) (br : List Int) (i : Nat) : (beatAt xs a br i).length ≤ 1 := by unfold beatAt; split <;> simp
theorem beaten_len {s : Int} (xs : List Int) (a : Int) {br : List Int} (h : brk s br) : (beaten xs a br).length ≤ br.length := by
  rw [beaten]
  split
  · rename_i h1
    have ih := beaten_len xs a (brk_next xs h h1)
    rw [nextR_len] at ih
    rw [List.length_append]
    by_cases hm : 0 ≤ a ∧ a ∈ br
    · rw [beatTo_spot h.2.2.2 hm.1 hm.2]
      have := beatAt_len xs a br (spot br a)
      omega
    · rw [beatTo_not hm]; simp; omega
  · simp
termination_by br.length
decreasing_by rw [nextR_len]; omega
def beatenBy (s : Int) (xs br : List Int) (a : Int) : List Int := if bracketOk s xs br then beaten xs a br else []
theorem beatenBy_len (s : Int) (xs br : List Int) (a : Int) : (beatenBy s xs br a).length ≤ 8 := by
  unfold beatenBy
  split
  · rename_i h
    have h1 := beaten_len xs a h.2
    have h2 := brk_len h.2
    omega
  · simp

/-! ### When two meet -/
def faces (br : List Int) (a b : Int) (i : Nat) : Prop := br.getD i (-1) = a ∧ br.getD (mate i) (-1) = b
instance (br : List Int) (a b : Int) (i : Nat) : Decidable (faces br a b i) := by unfold faces; infer_instance
def meets2 (br : List Int) (a b : Int) : Prop := ∃ i, i < br.length ∧ faces br a b i
def mtg (xs : List Int) (a b : Int) (r : Nat) (br : List Int) : Nat :=
  if 1 < br.length then if br.any (fun x => x == a) ∧ br.any (fun x => x == b) then if mate (spot br a) = spot br b then r else mtg xs a b (r + 1) (nextR xs br) else 0 else 0
termination_by br.length
decreasing_by rw [nextR_len]; omega
theorem mem_any {br : List Int} {a : Int} : br.any (fun x => x == a) = true ↔ a ∈ br := by simp
theorem getD_spot {br : List Int} {a : Int} (h : a ∈ br) : br.getD (spot br a) (-1) = a := by rw [List.getD, spot_get h]; rfl
theorem getD_mem {br : List Int} {i : Nat} (h : i < br.length) : br.getD i (-1) ∈ br := by rw [List.getD, List.getElem?_eq_getElem h]; simp
theorem meets2_iff {s : Int} {br : List Int} (hk : brk s br) (h1 : 1 < br.length) {a b : Int} (ha : 0 ≤ a) (hb : 0 ≤ b) : meets2 br a b ↔ a ∈ br ∧ b ∈ br ∧ mate (spot br a) = spot br b := by
  have uq : ∀ {x : Int} {i : Nat}, 0 ≤ x → i < br.length → br.getD i (-1) = x → spot br x = i := by
    intro x i hx hi e
    have hm : x ∈ br := by rw [← e]; exact getD_mem hi
    have hi' : br[i]? = some x := by rw [List.getD, List.getElem?_eq_getElem hi] at e; rw [List.getElem?_eq_getElem hi]; simpa using e
    exact plrs_uniq hk.2.2.2 hx (spot_get hm) hi'
  constructor
  · rintro ⟨i, hi, e1, e2⟩
    have hmi := mate_in hk h1 hi
    refine ⟨by rw [← e1]; exact getD_mem hi, by rw [← e2]; exact getD_mem hmi, ?_⟩
    rw [uq ha hi e1, uq hb hmi e2]
  · rintro ⟨hma, hmb, e⟩
    exact ⟨spot br a, spot_lt hma, getD_spot hma, by rw [e]; exact getD_spot hmb⟩
theorem mtg_hit {s : Int} {br : List Int} (hk : brk s br) (h1 : 1 < br.length) {a b : Int} (ha : 0 ≤ a) (hb : 0 ≤ b) (xs : List Int) (r : Nat) (h : meets2 br a b) : mtg xs a b r br = r := by
  obtain ⟨h2, h3, h4⟩ := (meets2_iff hk h1 ha hb).1 h
  rw [mtg, if_pos h1, if_pos ⟨mem_any.2 h2, mem_any.2 h3⟩, if_pos h4]
theorem mtg_out (xs : List Int) (a b : Int) (r : Nat) (br : List Int) (h : ¬ (a ∈ br ∧ b ∈ br)) : mtg xs a b r br = 0 := by
  rw [mtg]; split
  · rw [if_neg]; rw [mem_any, mem_any]; exact h
  · rfl
theorem mtg_miss {s : Int} {br : List Int} (hk : brk s br) (h1 : 1 < br.length) {a b : Int} (ha : 0 ≤ a) (hb : 0 ≤ b) (xs : List Int) (r : Nat) (h : ¬ meets2 br a b) : mtg xs a b r br = mtg xs a b (r + 1) (nextR xs br) := by
  by_cases hm : a ∈ br ∧ b ∈ br
  · rw [mtg, if_pos h1, if_pos ⟨mem_any.2 hm.1, mem_any.2 hm.2⟩, if_neg]
    exact fun e => h ((meets2_iff hk h1 ha hb).2 ⟨hm.1, hm.2, e⟩)
  · rw [mtg_out xs a b r br hm, mtg_out xs a b (r + 1) _ fun hh => hm ⟨nextR_mem xs br a hh.1, nextR_mem xs br b hh.2⟩]
theorem mtg_end {xs : List Int} {a b : Int} {r : Nat} {br : List Int} (h : ¬ 1 < br.length) : mtg xs a b r br = 0 := by rw [mtg, if_neg h]
theorem mtg_go {xs : List Int} {a b : Int} {r : Nat} {br : List Int} (h1 : 1 < br.length) (ha : a ∈ br) (hb : b ∈ br) (h : ¬ mate (spot br a) = spot br b) : mtg xs a b r br = mtg xs a b (r + 1) (nextR xs br) := by
  rw [mtg, if_pos h1, if_pos ⟨mem_any.2 ha, mem_any.2 hb⟩, if_neg h]
theorem mtg_now {xs : List Int} {a b : Int} {r : Nat} {br : List Int} (h1 : 1 < br.length) (ha : a ∈ br) (hb : b ∈ br) (h : mate (spot br a) = spot br b) : mtg xs a b r br = r := by
  rw [mtg, if_pos h1, if_pos ⟨mem_any.2 ha, mem_any.2 hb⟩, if_pos h]
def meeting (s : Int) (xs br : List Int) (a b : Int) : Int := if bracketOk s xs br ∧ 0 ≤ a ∧ 0 ≤ b then mtg xs a b 1 br else 0
theorem mtg_self {s : Int} (xs : List Int) (a : Int) (r : Nat) {br : List Int} (hk : brk s br) (ha : 0 ≤ a) : mtg xs a a r br = 0 := by
  by_cases h1 : 1 < br.length
  · have hne : ¬ meets2 br a a := fun h => by
      have h3 := (meets2_iff hk h1 ha ha).1 h
      have h4 := spot_lt h3.1
      have h5 := brk_len hk
      exact (mate_lt _ (by omega)).2.2.2.2 h3.2.2
    rw [mtg_miss hk h1 ha ha xs r hne]
    exact mtg_self xs a (r + 1) (brk_next xs hk h1) ha
  · exact mtg_end h1
termination_by br.length
decreasing_by rw [nextR_len]; omega
theorem mtg_le (xs : List Int) (a b : Int) (r : Nat) (br : List Int) : mtg xs a b r br ≤ r + br.length := by
  rw [mtg]
  split
  · split
    · split
      · omega
      · have := mtg_le xs a b (r + 1) (nextR xs br)
        rw [nextR_len] at this
        omega
    · omega
  · omega
termination_by br.length
decreasing_by rw [nextR_len]; omega
theorem meeting_no {s : Int} {xs br : List Int} {a b : Int} (h : ¬ bracketOk s xs br ∨ ¬ (0 ≤ a ∧ a ≤ s - 1) ∨ ¬ (0 ≤ b ∧ b ≤ s - 1) ∨ a = b) : meeting s xs br a b = 0 := by
  unfold meeting
  split
  · rename_i hh
    rcases h with h | h | h | h
    · exact absurd hh.1 h
    · rw [mtg_out xs a b 1 br fun hm => h (by have := hh.1.2.2.1 a hm.1; omega)]; rfl
    · rw [mtg_out xs a b 1 br fun hm => h (by have := hh.1.2.2.1 b hm.2; omega)]; rfl
    · subst h; rw [mtg_self xs a 1 hh.1.2 hh.2.1]; rfl
  · rfl
theorem meeting_yes {s : Int} {xs br : List Int} {a b : Int} (h : bracketOk s xs br) (ha : 0 ≤ a) (hb : 0 ≤ b) : meeting s xs br a b = mtg xs a b 1 br := by unfold meeting; rw [if_pos ⟨h, ha, hb⟩]
theorem beatTo_len (xs : List Int) (a : Int) (br : List Int) (k : Nat) : (beatTo xs a br k).length ≤ k := by
  induction k with
  | zero => simp [beatTo]
  | succ k ih => have := beatAt_len xs a br k; simp only [beatTo, List.length_append]; omega
theorem faces_not {br : List Int} {a b : Int} (h : ∀ i, i < br.length → ¬ faces br a b i) : ¬ meets2 br a b := fun ⟨i, hi, hf⟩ => h i hi hf
theorem beatAt_yes {xs : List Int} {a : Int} {br : List Int} {i : Nat} {y : Int} (h1 : br.getD i (-1) = a) (hy : br.getD (mate i) (-1) = y) (h2 : 0 ≤ y) (h3 : 0 ≤ a) (h4 : bts xs a.toNat y.toNat) : beatAt xs a br i = [y] := by
  subst hy; unfold beatAt; rw [if_pos ⟨h1, h2, h3, h4⟩]
theorem beatAt_not {xs : List Int} {a : Int} {br : List Int} {i : Nat} {y : Int} (hy : br.getD (mate i) (-1) = y) (h : ¬ (br.getD i (-1) = a ∧ 0 ≤ y ∧ 0 ≤ a ∧ bts xs a.toNat y.toNat)) : beatAt xs a br i = [] := by
  subst hy; unfold beatAt; rw [if_neg h]

end Go.Proofs.YtbaljgdepicigaaDoor
