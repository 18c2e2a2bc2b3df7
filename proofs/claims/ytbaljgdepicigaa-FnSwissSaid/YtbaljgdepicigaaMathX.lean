/-
  Plain lemmas on double elimination: no program.
-/
import Derived.Test.YtbaljgdepicigaaBase
import Derived.Test.YtbaljgdepicigaaMathA
import Derived.Test.YtbaljgdepicigaaMathD
import Derived.Test.YtbaljgdepicigaaMathB
import Derived.Test.YtbaljgdepicigaaMathU
import Derived.Test.YtbaljgdepicigaaMathG
namespace Go.Proofs.Ytbaljgdepicigaa
set_option linter.unusedVariables false

/-! ### Games of one round after the other -/
def beatsI (xs : List Int) (a b : Int) : Prop := bts xs a.toNat b.toNat
instance (xs : List Int) (a b : Int) : Decidable (beatsI xs a b) := by unfold beatsI; infer_instance
/-- Who wins and who loses. -/
def won (xs : List Int) (a b : Int) : Int := if beatsI xs a b then a else b
def lostG (xs : List Int) (a b : Int) : Int := if beatsI xs a b then b else a
structure DS where
  f : List Int
  s : List Int
  p : List Int
  g : List (List Int)
def goOn (d : DS) : Prop := 1 < d.f.length + d.s.length
instance (d : DS) : Decidable (goOn d) := by unfold goOn; infer_instance
def meetG (xs : List Int) (a b : Int) : List Int := [won xs a b, lostG xs a b]
def stepD (xs : List Int) (d : DS) : DS :=
  if 2 ≤ d.f.length then
    { f := d.f.drop 2 ++ [won xs (d.f.getD 0 0) (d.f.getD 1 0)], s := d.s ++ [lostG xs (d.f.getD 0 0) (d.f.getD 1 0)], p := d.p, g := d.g ++ [meetG xs (d.f.getD 0 0) (d.f.getD 1 0)] }
  else if 2 ≤ d.s.length then
    { f := d.f, s := d.s.drop 2 ++ [won xs (d.s.getD 0 0) (d.s.getD 1 0)], p := d.p ++ [lostG xs (d.s.getD 0 0) (d.s.getD 1 0)], g := d.g ++ [meetG xs (d.s.getD 0 0) (d.s.getD 1 0)] }
  else if beatsI xs (d.f.getD 0 0) (d.s.getD 0 0) then
    { f := d.f, s := [], p := d.p ++ [d.s.getD 0 0], g := d.g ++ [[d.f.getD 0 0, d.s.getD 0 0]] }
  else
    { f := [], s := [d.f.getD 0 0, d.s.getD 0 0], p := d.p, g := d.g ++ [[d.s.getD 0 0, d.f.getD 0 0]] }
def stD (xs o : List Int) : Nat → DS
  | 0 => { f := o, s := [], p := [], g := [] }
  | j + 1 => stepD xs (stD xs o j)
def weight (d : DS) : Nat := 2 * d.f.length + d.s.length
theorem step_weight (xs : List Int) (d : DS) (h : goOn d) : weight (stepD xs d) + 1 = weight d := by
  unfold goOn at h
  unfold stepD weight
  by_cases h1 : 2 ≤ d.f.length
  · simp [h1]; omega
  · by_cases h2 : 2 ≤ d.s.length
    · simp [h1, h2]; omega
    · simp only [h1, h2, if_false]
      split
      · simp; omega
      · simp; omega
theorem st_weight (xs o : List Int) {j : Nat} (h : ∀ i, i < j → goOn (stD xs o i)) : weight (stD xs o j) + j = 2 * o.length := by
  induction j with
  | zero => simp [stD, weight]
  | succ j ih =>
    have h1 := step_weight xs (stD xs o j) (h j (by omega))
    have h2 := ih fun i hi => h i (by omega)
    simp only [stD]
    omega
theorem step_games (xs : List Int) (d : DS) : (stepD xs d).g.length = d.g.length + 1 := by
  unfold stepD
  split
  · simp
  · split
    · simp
    · split <;> simp
theorem st_games (xs o : List Int) (j : Nat) : (stD xs o j).g.length = j := by
  induction j with
  | zero => rfl
  | succ j ih => simp only [stD, step_games, ih]
/-- How many games are played. -/
def lenD (xs o : List Int) : Nat := (firstN (fun j => decide (¬ goOn (stD xs o j))) (2 * o.length + 1)).toNat
theorem lenD_ok (xs o : List Int) : ¬ goOn (stD xs o (lenD xs o)) ∧ ∀ i, i < lenD xs o → goOn (stD xs o i) := by
  have h0 : 0 ≤ firstN (fun j => decide (¬ goOn (stD xs o j))) (2 * o.length + 1) := by
    by_cases hh : ∃ d, d < 2 * o.length + 1 ∧ ¬ goOn (stD xs o d)
    · obtain ⟨d, hd, hf⟩ := hh
      exact firstN_ex (k := d) hd (decide_eq_true hf)
    · exfalso
      have h1 : ∀ i, i < 2 * o.length + 1 → goOn (stD xs o i) := fun i hi => Decidable.byContradiction fun h => hh ⟨i, hi, h⟩
      have := st_weight xs o h1
      omega
  obtain ⟨h1, h2, h3⟩ := firstN_get h0
  exact ⟨of_decide_eq_true h1, fun i hi => Decidable.byContradiction fun h => by have := of_decide_eq_false (h3 i hi); exact this h⟩
theorem lenD_eq {xs o : List Int} {j : Nat} (h : ∀ i, i < j → goOn (stD xs o i)) (h0 : ¬ goOn (stD xs o j)) : lenD xs o = j := by
  obtain ⟨h1, h2⟩ := lenD_ok xs o
  rcases Nat.lt_trichotomy (lenD xs o) j with e | e | e
  · exact absurd (h _ e) h1
  · exact e
  · exact absurd (h2 _ e) h0
def endD (xs o : List Int) : DS := stD xs o (lenD xs o)
def doubleG (xs o : List Int) : List (List Int) := (endD xs o).g
def placesD (xs o : List Int) : List Int := ((endD xs o).p ++ (endD xs o).f ++ (endD xs o).s).reverse
theorem lenD_le (xs o : List Int) : lenD xs o ≤ 2 * o.length := by
  have := st_weight xs o (j := lenD xs o) (lenD_ok xs o).2; omega
theorem doubleG_len (xs o : List Int) : (doubleG xs o).length = lenD xs o := st_games _ _ _
/-- All players, each in one place. -/
def allD (d : DS) : List Int := d.f ++ d.s ++ d.p
theorem won_lost (xs : List Int) (a b : Int) : (won xs a b = a ∧ lostG xs a b = b) ∨ (won xs a b = b ∧ lostG xs a b = a) := by unfold won lostG; split <;> simp
theorem two_of {l : List Int} (h : 2 ≤ l.length) : l = l.getD 0 0 :: l.getD 1 0 :: l.drop 2 := by
  match l, h with
  | a :: b :: r, _ => rfl
theorem one_of {l : List Int} (h : l.length = 1) : l = [l.getD 0 0] := by
  match l, h with
  | [a], _ => rfl
theorem perm_step (xs : List Int) (d : DS) (h : goOn d) : (allD (stepD xs d)).Perm (allD d) := by
  unfold goOn at h
  rw [List.perm_iff_count]
  intro z
  unfold stepD allD
  by_cases h1 : 2 ≤ d.f.length
  · have e := two_of h1
    generalize d.f.getD 0 0 = a at *
    generalize d.f.getD 1 0 = b at *
    generalize d.f.drop 2 = r at *
    simp only [h1, if_true]
    rw [e]
    rcases won_lost xs a b with ⟨w1, w2⟩ | ⟨w1, w2⟩ <;> rw [w1, w2] <;> simp only [List.count_append, List.count_cons, List.count_nil] <;> omega
  · by_cases h2 : 2 ≤ d.s.length
    · have e := two_of h2
      simp only [h1, h2, if_true, if_false]
      generalize d.s.getD 0 0 = a at *
      generalize d.s.getD 1 0 = b at *
      generalize d.s.drop 2 = r at *
      rw [e]
      rcases won_lost xs a b with ⟨w1, w2⟩ | ⟨w1, w2⟩ <;> rw [w1, w2] <;> simp only [List.count_append, List.count_cons, List.count_nil] <;> omega
    · have e1 := one_of (l := d.f) (by omega)
      have e2 := one_of (l := d.s) (by omega)
      simp only [h1, h2, if_false]
      generalize d.f.getD 0 0 = a at *
      generalize d.s.getD 0 0 = b at *
      rw [e1, e2]
      split <;> simp only [List.count_append, List.count_cons, List.count_nil] <;> omega
theorem perm_st (xs o : List Int) {j : Nat} (h : ∀ i, i < j → goOn (stD xs o i)) : (allD (stD xs o j)).Perm o := by
  induction j with
  | zero => simp [stD, allD]
  | succ j ih => exact (perm_step xs _ (h j (by omega))).trans (ih fun i hi => h i (by omega))
theorem allD_bound {xs o : List Int} {j : Nat} (h : ∀ i, i < j → goOn (stD xs o i)) {P : Int → Prop} (ho : ∀ x ∈ o, P x) : ∀ x ∈ allD (stD xs o j), P x := fun x hx => ho x ((perm_st xs o h).mem_iff.1 hx)

/-! ### Defeats -/
def lossOf (g : List (List Int)) (a : Int) : Nat := g.countP fun x => x.getD 1 0 == a
theorem lossOf_snoc (g : List (List Int)) (x : List Int) (a : Int) : lossOf (g ++ [x]) a = lossOf g a + if x.getD 1 0 = a then 1 else 0 := by
  unfold lossOf; rw [List.countP_append]; by_cases e : x.getD 1 0 = a <;> simp [List.countP_cons, List.getD] at e ⊢ <;> simp [e]
/-- Those in the first part have not lost, those in the second once, those who are out twice. -/
structure lossOk (d : DS) : Prop where
  f : ∀ x ∈ d.f, lossOf d.g x = 0
  s : ∀ x ∈ d.s, lossOf d.g x = 1
  p : ∀ x ∈ d.p, lossOf d.g x = 2
theorem loss_step (xs : List Int) (d : DS) (h : goOn d) (hn : (allD d).Nodup) (hl : lossOk d) : lossOk (stepD xs d) := by
  unfold goOn at h
  unfold allD at hn
  rw [List.nodup_append, List.nodup_append] at hn
  obtain ⟨⟨hf, hs, hfs⟩, hp, hq⟩ := hn
  have hfp : ∀ a ∈ d.f, ∀ b ∈ d.p, a ≠ b := fun a ha => hq a (by simp [ha])
  have hsp : ∀ a ∈ d.s, ∀ b ∈ d.p, a ≠ b := fun a ha => hq a (by simp [ha])
  clear hq
  obtain ⟨l1, l2, l3⟩ := hl
  unfold stepD
  by_cases h1 : 2 ≤ d.f.length
  · have e := two_of h1
    simp only [h1, if_true]
    generalize d.f.getD 0 0 = a at *
    generalize d.f.getD 1 0 = b at *
    generalize d.f.drop 2 = r at *
    rw [e] at hf hfs hfp l1
    simp only [List.nodup_cons, List.mem_cons] at hf
    have key : ∀ u v : Int, (u = a ∧ v = b) ∨ (u = b ∧ v = a) → lossOk { f := r ++ [u], s := d.s ++ [v], p := d.p, g := d.g ++ [[u, v]] } := by
      intro u v huv
      have hu : u ∈ a :: b :: r ∧ v ∈ a :: b :: r ∧ u ≠ v ∧ ¬ v ∈ r := by
        rcases huv with ⟨rfl, rfl⟩ | ⟨rfl, rfl⟩
        · exact ⟨by simp, by simp, fun e => hf.1 (.inl e), hf.2.1⟩
        · exact ⟨by simp, by simp, fun e => hf.1 (.inl e.symm), fun h => hf.1 (.inr h)⟩
      refine ⟨fun x hx => ?_, fun x hx => ?_, fun x hx => ?_⟩
      · rw [lossOf_snoc]
        rcases List.mem_append.1 hx with hx | hx
        · rw [l1 x (by simp [hx])]; simp; exact fun e => hu.2.2.2 (e ▸ hx)
        · simp at hx; subst hx; rw [l1 x hu.1]; simp; exact fun e => hu.2.2.1 e.symm
      · rw [lossOf_snoc]
        rcases List.mem_append.1 hx with hx | hx
        · rw [l2 x hx]; simp; exact fun e => hfs v hu.2.1 x hx e
        · simp at hx; subst hx; rw [l1 x hu.2.1]; simp
      · rw [lossOf_snoc, l3 x hx]; simp; exact fun e => hfp v hu.2.1 x hx e
    exact key _ _ (won_lost xs a b)
  · by_cases h2 : 2 ≤ d.s.length
    · have e := two_of h2
      simp only [h1, h2, if_true, if_false]
      generalize d.s.getD 0 0 = a at *
      generalize d.s.getD 1 0 = b at *
      generalize d.s.drop 2 = r at *
      rw [e] at hs hfs hsp l2
      simp only [List.nodup_cons, List.mem_cons] at hs
      have key : ∀ u v : Int, (u = a ∧ v = b) ∨ (u = b ∧ v = a) → lossOk { f := d.f, s := r ++ [u], p := d.p ++ [v], g := d.g ++ [[u, v]] } := by
        intro u v huv
        have hu : u ∈ a :: b :: r ∧ v ∈ a :: b :: r ∧ u ≠ v ∧ ¬ v ∈ r := by
          rcases huv with ⟨rfl, rfl⟩ | ⟨rfl, rfl⟩
          · exact ⟨by simp, by simp, fun e => hs.1 (.inl e), hs.2.1⟩
          · exact ⟨by simp, by simp, fun e => hs.1 (.inl e.symm), fun h => hs.1 (.inr h)⟩
        refine ⟨fun x hx => ?_, fun x hx => ?_, fun x hx => ?_⟩
        · rw [lossOf_snoc, l1 x hx]; simp; exact fun e => hfs x hx v hu.2.1 e.symm
        · rw [lossOf_snoc]
          rcases List.mem_append.1 hx with hx | hx
          · rw [l2 x (by simp [hx])]; simp; exact fun e => hu.2.2.2 (e ▸ hx)
          · simp at hx; subst hx; rw [l2 x hu.1]; simp; exact fun e => hu.2.2.1 e.symm
        · rw [lossOf_snoc]
          rcases List.mem_append.1 hx with hx | hx
          · rw [l3 x hx]; simp; exact fun e => hsp v hu.2.1 x hx e
          · simp at hx; subst hx; rw [l2 x hu.2.1]; simp
      exact key _ _ (won_lost xs a b)
    · have e1 := one_of (l := d.f) (by omega)
      have e2 := one_of (l := d.s) (by omega)
      simp only [h1, h2, if_false]
      generalize d.f.getD 0 0 = a at *
      generalize d.s.getD 0 0 = b at *
      rw [e1] at hfs hfp l1
      rw [e2] at hfs hsp l2
      have hab : a ≠ b := hfs a (by simp) b (by simp)
      split
      · refine ⟨fun x hx => ?_, (fun x hx => by cases hx), fun x hx => ?_⟩
        · rw [e1] at hx; simp at hx; subst hx; rw [lossOf_snoc, l1 x (by simp)]; simp; exact fun e => hab e.symm
        · rw [lossOf_snoc]
          rcases List.mem_append.1 hx with hx | hx
          · rw [l3 x hx]; simp; exact fun e => hsp b (by simp) x hx e
          · simp at hx; subst hx; rw [l2 x (by simp)]; simp
      · refine ⟨(fun x hx => by cases hx), fun x hx => ?_, fun x hx => ?_⟩
        · simp at hx
          rcases hx with rfl | rfl
          · rw [lossOf_snoc, l1 x (by simp)]; simp
          · rw [lossOf_snoc, l2 x (by simp)]; simp; exact hab
        · rw [lossOf_snoc, l3 x hx]; simp; exact fun e => hfp a (by simp) x hx e
theorem loss_st {xs o : List Int} (ho : o.Nodup) {j : Nat} (h : ∀ i, i < j → goOn (stD xs o i)) : lossOk (stD xs o j) := by
  induction j with
  | zero => exact ⟨fun x _ => rfl, (fun x hx => by cases hx), (fun x hx => by cases hx)⟩
  | succ j ih =>
    have hh : ∀ i, i < j → goOn (stD xs o i) := fun i hi => h i (by omega)
    exact loss_step xs _ (h j (by omega)) ((perm_st xs o hh).nodup_iff.2 ho) (ih hh)

/-! ### The reference's way to the places -/
theorem g_prefix (xs o : List Int) (j m : Nat) : (stD xs o (j + m)).g.take j = (stD xs o j).g := by
  induction m with
  | zero => rw [Nat.add_zero]; exact take_len (st_games xs o j)
  | succ m ih =>
    have e : ∃ x, (stD xs o (j + (m + 1))).g = (stD xs o (j + m)).g ++ [x] := by
      rw [← Nat.add_assoc]
      show ∃ x, (stepD xs (stD xs o (j + m))).g = _
      unfold stepD
      split
      · exact ⟨_, rfl⟩
      · split
        · exact ⟨_, rfl⟩
        · split <;> exact ⟨_, rfl⟩
    obtain ⟨x, e⟩ := e
    rw [e, List.take_append_of_le_length (by rw [st_games]; omega), ih]
def outTo (g : List (List Int)) : Nat → List Int
  | 0 => []
  | k + 1 => if lossOf (g.take (k + 1)) ((g.getD k []).getD 1 0) = 2 then (g.getD k []).getD 1 0 :: outTo g k else outTo g k
def finTo (g : List (List Int)) (out : List Int) : Nat → List Int
  | 0 => out
  | k + 1 => if lossOf g k < 2 then (k : Int) :: finTo g out k else finTo g out k
theorem step_game (xs : List Int) (d : DS) : ∃ u v : Int, (stepD xs d).g = d.g ++ [[u, v]] ∧ (((stepD xs d).p = d.p ∧ v ∈ (stepD xs d).s) ∨ ((stepD xs d).p = d.p ++ [v])) := by
  unfold stepD
  split
  · exact ⟨_, _, rfl, .inl ⟨rfl, by simp⟩⟩
  · split
    · exact ⟨_, _, rfl, .inr rfl⟩
    · split
      · exact ⟨_, _, rfl, .inr rfl⟩
      · exact ⟨_, _, rfl, .inl ⟨rfl, by simp⟩⟩
theorem outTo_st {xs o : List Int} (ho : o.Nodup) {j : Nat} (hj : j ≤ lenD xs o) : outTo (doubleG xs o) j = (stD xs o j).p.reverse := by
  induction j with
  | zero => rfl
  | succ j ih =>
    have ih := ih (by omega)
    obtain ⟨m, hm⟩ : ∃ m, lenD xs o = j + 1 + m := ⟨lenD xs o - (j + 1), by omega⟩
    have hp : (doubleG xs o).take (j + 1) = (stD xs o (j + 1)).g := by unfold doubleG endD; rw [hm]; exact g_prefix xs o (j + 1) m
    obtain ⟨u, v, hg, hv⟩ := step_game xs (stD xs o j)
    have hg' : (stD xs o (j + 1)).g = (stD xs o j).g ++ [[u, v]] := hg
    have hat : (doubleG xs o).getD j [] = [u, v] := by
      have h1 : ((doubleG xs o).take (j + 1))[j]? = some [u, v] := by
        rw [hp, hg', List.getElem?_append_right (by rw [st_games]; omega), st_games]; simp
      rw [List.getElem?_take, if_pos (by omega)] at h1
      rw [List.getD, h1]; rfl
    have hl := loss_st (xs := xs) ho (j := j + 1) fun i hi => (lenD_ok xs o).2 i (by omega)
    simp only [outTo, hat, hp]
    have e1 : [u, v].getD 1 0 = v := rfl
    rw [e1]
    rcases hv with ⟨h1, h2⟩ | h1
    · rw [if_neg (by rw [hl.s v h2]; omega), ih]
      exact congrArg _ h1.symm
    · have h2 : v ∈ (stD xs o (j + 1)).p := by show v ∈ (stepD xs (stD xs o j)).p; rw [h1]; simp
      rw [if_pos (hl.p v h2), ih]
      show _ = (stepD xs (stD xs o j)).p.reverse
      rw [h1, List.reverse_append]; rfl
/-- The numbers from 0 on. -/
def upto (n : Nat) : List Int := (List.range n).map fun (j : Nat) => (j : Int)
theorem upto_len (n : Nat) : (upto n).length = n := by simp [upto]
theorem upto_nodup (n : Nat) : (upto n).Nodup := by
  unfold upto
  rw [List.nodup_iff_pairwise_ne, List.pairwise_map]
  exact (List.nodup_range (n := n)).imp fun h e => h (by omega)
theorem upto_mem {n : Nat} {x : Int} : x ∈ upto n ↔ 0 ≤ x ∧ x < n := by
  simp [upto]
  constructor
  · rintro ⟨a, h, rfl⟩; omega
  · intro h; exact ⟨x.toNat, by omega, by omega⟩
theorem upto_get {n k : Nat} (h : k < n) : (upto n)[k]? = some (k : Int) := by simp [upto, h]
theorem upto_snoc (n : Nat) : upto (n + 1) = upto n ++ [(n : Int)] := by simp [upto, List.range_succ]
/-- At the end there is one left. -/
theorem end_one (xs : List Int) {o : List Int} (h0 : o ≠ []) : ∃ w, (endD xs o).f ++ (endD xs o).s = [w] := by
  have hw := st_weight xs o (j := lenD xs o) (lenD_ok xs o).2
  have hp := (perm_st xs o (j := lenD xs o) (lenD_ok xs o).2).length_eq
  have hg := (lenD_ok xs o).1
  unfold goOn at hg
  -- some are left: a step leaves one at least
  have h1 : 1 ≤ (endD xs o).f.length + (endD xs o).s.length := by
    unfold endD
    rcases Nat.eq_zero_or_pos (lenD xs o) with e | e
    · rw [e]; simp [stD]; have := List.length_pos_iff.2 h0; omega
    · obtain ⟨j, hj⟩ : ∃ j, lenD xs o = j + 1 := ⟨lenD xs o - 1, by omega⟩
      rw [hj]
      simp only [stD, stepD]
      split
      · simp; omega
      · split
        · simp; omega
        · have := (lenD_ok xs o).2 j (by omega)
          unfold goOn at this
          split
          · simp; omega
          · simp
  have h2 : ((endD xs o).f ++ (endD xs o).s).length = 1 := by rw [List.length_append]; unfold endD at h1 ⊢; omega
  match h : (endD xs o).f ++ (endD xs o).s, h2 with
  | [w], _ => exact ⟨w, rfl⟩
theorem finTo_end {g : List (List Int)} {out : List Int} {n : Nat} {w : Int} (hw : 0 ≤ w ∧ w < n) (h : ∀ k : Nat, k < n → (lossOf g k < 2 ↔ (k : Int) = w)) : finTo g out n = w :: out := by
  have key : ∀ k, k ≤ n → finTo g out k = if w < k then w :: out else out := by
    intro k
    induction k with
    | zero => intro _; simp [finTo]; omega
    | succ k ih =>
      intro hk
      simp only [finTo, ih (by omega)]
      by_cases e : (k : Int) = w
      · rw [if_pos ((h k (by omega)).2 e), if_neg (by omega), if_pos (by omega), e]
      · rw [if_neg (fun hh => e ((h k (by omega)).1 hh))]
        by_cases e2 : w < k
        · rw [if_pos e2, if_pos (by omega)]
        · rw [if_neg e2, if_neg (by omega)]
  rw [key n (Nat.le_refl _), if_pos hw.2]
theorem places_same (xs : List Int) {n : Nat} (hn : 0 < n) : finTo (doubleG xs (upto n)) (outTo (doubleG xs (upto n)) (doubleG xs (upto n)).length) n = placesD xs (upto n) := by
  have h0 : upto n ≠ [] := by intro e; have := upto_len n; rw [e] at this; simp at this; omega
  obtain ⟨w, hw⟩ := end_one xs h0
  rw [doubleG_len, outTo_st (upto_nodup n) (Nat.le_refl _)]
  have hl := loss_st (xs := xs) (upto_nodup n) (j := lenD xs (upto n)) (lenD_ok xs (upto n)).2
  have hp := perm_st xs (upto n) (j := lenD xs (upto n)) (lenD_ok xs (upto n)).2
  change lossOk (endD xs (upto n)) at hl
  change (allD (endD xs (upto n))).Perm _ at hp
  unfold allD at hp
  rw [hw] at hp
  have hnd := hp.nodup_iff.2 (upto_nodup n)
  have hwl : lossOf (doubleG xs (upto n)) w < 2 := by
    have hm : w ∈ (endD xs (upto n)).f ++ (endD xs (upto n)).s := by rw [hw]; simp
    rcases List.mem_append.1 hm with hm | hm
    · have := hl.f w hm; unfold doubleG; omega
    · have := hl.s w hm; unfold doubleG; omega
  have hwb := upto_mem.1 (hp.mem_iff.1 (show w ∈ [w] ++ _ by simp))
  rw [finTo_end (w := w) hwb]
  · show w :: (endD xs (upto n)).p.reverse = _
    unfold placesD
    rw [List.append_assoc, hw, List.reverse_append]; rfl
  · intro k hk
    constructor
    · intro hlt
      have hm := hp.mem_iff.2 (upto_mem.2 (show 0 ≤ (k : Int) ∧ (k : Int) < n by omega))
      rcases List.mem_append.1 hm with hm | hm
      · simpa using hm
      · have := hl.p _ hm; unfold doubleG at hlt; omega
    · rintro e; rw [e]; exact hwl
theorem placesD_perm (xs : List Int) (o : List Int) : (placesD xs o).Perm o := by
  have hp := perm_st xs o (j := lenD xs o) (lenD_ok xs o).2
  refine List.Perm.trans ?_ hp
  rw [List.perm_iff_count]
  intro z
  unfold placesD allD endD
  simp only [List.count_reverse, List.count_append]
  omega
/-- The two of a game differ, and are players. -/
theorem game_two {xs o : List Int} (ho : o.Nodup) {j : Nat} (h : ∀ i, i < j → goOn (stD xs o i)) : ∀ x ∈ (stD xs o j).g, ∃ u v, x = [u, v] ∧ u ≠ v ∧ u ∈ o ∧ v ∈ o := by
  induction j with
  | zero => intro x hx; cases hx
  | succ j ih =>
    have hh : ∀ i, i < j → goOn (stD xs o i) := fun i hi => h i (by omega)
    have hp := perm_st xs o hh
    have hn := hp.nodup_iff.2 ho
    have hg := h j (by omega)
    unfold goOn at hg
    have hstep : ∃ u v, (stepD xs (stD xs o j)).g = (stD xs o j).g ++ [[u, v]] ∧ u ≠ v ∧ u ∈ allD (stD xs o j) ∧ v ∈ allD (stD xs o j) := by
      generalize stD xs o j = d at *
      unfold allD at hn hp ⊢
      rw [List.nodup_append, List.nodup_append] at hn
      obtain ⟨⟨hf, hs, hfs⟩, _, _⟩ := hn
      unfold stepD
      split
      · rename_i h1
        have e := two_of h1
        generalize d.f.getD 0 0 = a at *
        generalize d.f.getD 1 0 = b at *
        have hab : a ≠ b := by rw [e] at hf; simp at hf; exact fun e => hf.1.1 e
        refine ⟨won xs a b, lostG xs a b, rfl, ?_⟩
        rw [e]
        rcases won_lost xs a b with ⟨w1, w2⟩ | ⟨w1, w2⟩ <;> rw [w1, w2]
        · exact ⟨hab, by simp, by simp⟩
        · exact ⟨fun e => hab e.symm, by simp, by simp⟩
      · split
        · rename_i h1
          have e := two_of h1
          generalize d.s.getD 0 0 = a at *
          generalize d.s.getD 1 0 = b at *
          have hab : a ≠ b := by rw [e] at hs; simp at hs; exact fun e => hs.1.1 e
          refine ⟨won xs a b, lostG xs a b, rfl, ?_⟩
          rw [e]
          rcases won_lost xs a b with ⟨w1, w2⟩ | ⟨w1, w2⟩ <;> rw [w1, w2]
          · exact ⟨hab, by simp, by simp⟩
          · exact ⟨fun e => hab e.symm, by simp, by simp⟩
        · have e1 := one_of (l := d.f) (by omega)
          have e2 := one_of (l := d.s) (by omega)
          generalize d.f.getD 0 0 = a at *
          generalize d.s.getD 0 0 = b at *
          rw [e1, e2]
          rw [e1] at hfs
          rw [e2] at hfs
          have hab : a ≠ b := hfs a (by simp) b (by simp)
          split
          · exact ⟨a, b, rfl, hab, by simp, by simp⟩
          · exact ⟨b, a, rfl, fun e => hab e.symm, by simp, by simp⟩
    obtain ⟨u, v, e, huv, hu, hv⟩ := hstep
    intro x hx
    change x ∈ (stepD xs (stD xs o j)).g at hx
    rw [e] at hx
    rcases List.mem_append.1 hx with hx | hx
    · exact ih hh x hx
    · simp at hx; exact ⟨u, v, hx, huv, hp.mem_iff.1 hu, hp.mem_iff.1 hv⟩
/-! ### Single elimination -/
structure SS where
  r : List Int
  g : List (List Int)
def stS (xs o : List Int) : Nat → SS
  | 0 => { r := o, g := [] }
  | j + 1 => { r := (stS xs o j).r.drop 2 ++ [won xs ((stS xs o j).r.getD 0 0) ((stS xs o j).r.getD 1 0)], g := (stS xs o j).g ++ [meetG xs ((stS xs o j).r.getD 0 0) ((stS xs o j).r.getD 1 0)] }
theorem stS_len (xs o : List Int) {j : Nat} (hj : j + 1 ≤ o.length) : (stS xs o j).r.length + j = o.length ∧ (stS xs o j).g.length = j := by
  induction j with
  | zero => simp [stS]
  | succ j ih =>
    have := ih (by omega)
    simp only [stS, List.length_append, List.length_drop, List.length_singleton]
    omega
theorem stS_mem (xs o : List Int) {j : Nat} (hj : j + 1 ≤ o.length) : ∀ x ∈ (stS xs o j).r, x ∈ o := by
  induction j with
  | zero => intro x hx; exact hx
  | succ j ih =>
    intro x hx
    have hl := (stS_len xs o (j := j) (by omega)).1
    have ih := ih (by omega)
    simp only [stS] at hx
    have e := two_of (l := (stS xs o j).r) (by omega)
    rcases List.mem_append.1 hx with hx | hx
    · exact ih x (List.mem_of_mem_drop hx)
    · simp at hx
      rcases won_lost xs ((stS xs o j).r.getD 0 0) ((stS xs o j).r.getD 1 0) with ⟨w1, _⟩ | ⟨w1, _⟩
      · simp only [List.getD] at w1; rw [hx, w1]; apply ih; rw [e]; simp
      · simp only [List.getD] at w1; rw [hx, w1]; apply ih; rw [e]; simp
def singleG (xs o : List Int) : List (List Int) := (stS xs o (o.length - 1)).g

end Go.Proofs.Ytbaljgdepicigaa
