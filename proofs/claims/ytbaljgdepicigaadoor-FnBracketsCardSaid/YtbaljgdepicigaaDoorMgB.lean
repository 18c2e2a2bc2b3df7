/-
  Several texts of plain lemmas and contracts in one.
-/
import Derived.Test.YtbaljgdepicigaaDoorBase
import Derived.Test.YtbaljgdepicigaaDoorMgA
/-
  Plain lemmas on counts of defeats: no program.
-/
namespace Go.Proofs.YtbaljgdepicigaaDoor
set_option linter.unusedVariables false

/-- How often each has lost in the first k games. -/
def lostTo (g : List (List Int)) (n k : Nat) : List Int := (List.range n).map fun (a : Nat) => (lossOf (g.take k) (a : Int) : Int)
theorem lostTo_len (g : List (List Int)) (n k : Nat) : (lostTo g n k).length = n := by simp [lostTo]
theorem lostTo_get (g : List (List Int)) {n a : Nat} (k : Nat) (h : a < n) : (lostTo g n k)[a]? = some (lossOf (g.take k) (a : Int) : Int) := by simp [lostTo, h]
theorem lostTo_zero (g : List (List Int)) (n : Nat) : lostTo g n 0 = List.replicate n 0 := by
  apply List.ext_getElem?
  intro i
  by_cases h : i < n
  · rw [lostTo_get g 0 h]; simp [lossOf, h]
  · rw [List.getElem?_eq_none (by rw [lostTo_len]; omega), List.getElem?_eq_none (by simp; omega)]
theorem take_snocL {α : Type} {l : List α} {k : Nat} {x : α} (h : l[k]? = some x) : l.take (k + 1) = l.take k ++ [x] := by
  rw [List.take_add_one, h]; rfl
theorem lostTo_step {g : List (List Int)} {n k v : Nat} {u : Int} (hg : g[k]? = some [u, (v : Int)]) (hv : v < n) : lostTo g n (k + 1) = (lostTo g n k).set v ((lossOf (g.take k) (v : Int) : Int) + 1) := by
  apply List.ext_getElem?
  intro i
  rw [List.getElem?_set]
  by_cases h : i < n
  · rw [lostTo_get g (k + 1) h, take_snocL hg, lossOf_snoc]
    by_cases e : v = i
    · subst e; rw [if_pos (by rfl), if_pos rfl, if_pos (by rw [lostTo_len]; exact hv)]; simp
    · rw [if_neg e, lostTo_get g k h, if_neg (by simp; omega)]; simp
  · rw [List.getElem?_eq_none (by rw [lostTo_len]; omega)]
    rw [if_neg (by omega), List.getElem?_eq_none (by rw [lostTo_len]; omega)]
theorem outTo_step {g : List (List Int)} {k v : Nat} {u : Int} (hg : g[k]? = some [u, (v : Int)]) :
    outTo g (k + 1) = if lossOf (g.take k) (v : Int) + 1 = 2 then (v : Int) :: outTo g k else outTo g k := by
  have h0 : g.getD k [] = [u, (v : Int)] := by simp [List.getD, hg]
  have h1 : (g.getD k []).getD 1 0 = (v : Int) := by rw [h0]; rfl
  simp only [outTo]
  rw [h1, take_snocL hg, lossOf_snoc]
  simp

end Go.Proofs.YtbaljgdepicigaaDoor
/-
  Plain lemmas on winners, defeats and games of players: no program.
-/
namespace Go.Proofs.YtbaljgdepicigaaDoor
set_option linter.unusedVariables false

/-- In how many games a player is. -/
def playsOf (g : List (List Int)) (a : Int) : Nat := g.countP fun x => decide (a ∈ x)
def firstOf (g : List (List Int)) (a : Int) : Nat := g.countP fun x => x.getD 0 0 == a
theorem plays_split {g : List (List Int)} (h : ∀ x ∈ g, ∃ u v : Int, x = [u, v] ∧ u ≠ v) (a : Int) : playsOf g a = firstOf g a + lossOf g a := by
  induction g with
  | nil => rfl
  | cons x g ih =>
    have ih := ih fun y hy => h y (by simp [hy])
    obtain ⟨u, v, rfl, huv⟩ := h x (by simp)
    unfold playsOf firstOf lossOf at ih ⊢
    simp only [List.countP_cons, ih, List.getD_cons_zero, List.getD_cons_succ, List.mem_cons, List.not_mem_nil, or_false]
    by_cases h1 : u = a <;> by_cases h2 : v = a
    · exact absurd (h1.trans h2.symm) huv
    · simp [h1, h2]; omega
    · have h3 : ¬ a = u := fun e => h1 e.symm
      simp [h1, h2, h3]; omega
    · have h3 : ¬ a = u := fun e => h1 e.symm
      have h4 : ¬ a = v := fun e => h2 e.symm
      simp [h1, h2, h3, h4]
theorem double_two (xs : List Int) {o : List Int} (ho : o.Nodup) : ∀ x ∈ doubleG xs o, ∃ u v : Int, x = [u, v] ∧ u ≠ v ∧ u ∈ o ∧ v ∈ o := by
  unfold doubleG endD
  exact game_two ho fun i hi => (lenD_ok xs o).2 i hi
theorem countP_snoc {α : Type} (p : α → Bool) {g : List α} {k : Nat} {x : α} (h : g[k]? = some x) : (g.take (k + 1)).countP p = (g.take k).countP p + if p x = true then 1 else 0 := by
  rw [List.take_add_one, h]; simp [List.countP_append, List.countP_cons]
theorem placesD_len (xs o : List Int) : (placesD xs o).length = o.length := (placesD_perm xs o).length_eq

end Go.Proofs.YtbaljgdepicigaaDoor
/-
  Plain lemmas on what double elimination answers: no program.
-/
namespace Go.Proofs.YtbaljgdepicigaaDoor
set_option linter.unusedVariables false

/-- Of two players one beats the other. -/
def totalOn (xs o : List Int) : Prop := ∀ a ∈ o, ∀ b ∈ o, a ≠ b → ¬ beatsI xs a b → beatsI xs b a
theorem total_upto {n : Nat} {xs : List Int} (ht : tourOk (n : Int) xs) {o : List Int} (ho : ∀ x ∈ o, 0 ≤ x ∧ x < (n : Int)) : totalOn xs o := fun a ha b hb hne h => by
  have hl := tourOk_size ht
  have h1 := ho a ha
  have h2 := ho b hb
  unfold beatsI at *
  exact (bts_anti ht (by omega) (by omega) (by omega)).2 h
theorem step_form (xs : List Int) (d : DS) : ∃ a b, (stepD xs d).g = d.g ++ [[won xs a b, lostG xs a b]] := by
  unfold stepD
  split
  · exact ⟨_, _, rfl⟩
  · split
    · exact ⟨_, _, rfl⟩
    · split
      · rename_i h; exact ⟨d.f.getD 0 0, d.s.getD 0 0, by unfold won lostG; rw [if_pos h, if_pos h]⟩
      · rename_i h; exact ⟨d.f.getD 0 0, d.s.getD 0 0, by unfold won lostG; rw [if_neg h, if_neg h]⟩
theorem game_form (xs o : List Int) (j : Nat) : ∀ x ∈ (stD xs o j).g, ∃ a b, x = [won xs a b, lostG xs a b] := by
  induction j with
  | zero => intro x hx; cases hx
  | succ j ih =>
    intro x hx
    obtain ⟨a, b, e⟩ := step_form xs (stD xs o j)
    change x ∈ (stepD xs (stD xs o j)).g at hx
    rw [e] at hx
    rcases List.mem_append.1 hx with hx | hx
    · exact ih x hx
    · simp at hx; exact ⟨a, b, hx⟩
theorem won_beats {xs o : List Int} (ht : totalOn xs o) {a b u v : Int} (hu : won xs a b = u) (hv : lostG xs a b = v) (hne : u ≠ v) (h1 : u ∈ o) (h2 : v ∈ o) : beatsI xs u v := by
  unfold won at hu
  unfold lostG at hv
  by_cases e : beatsI xs a b
  · rw [if_pos e] at hu hv
    rw [← hu, ← hv]; exact e
  · rw [if_neg e] at hu hv
    subst hu hv
    exact ht _ h2 _ h1 (fun e2 => hne e2.symm) e
theorem game_beats {xs o : List Int} (ho : o.Nodup) (ht : totalOn xs o) : ∀ x ∈ doubleG xs o, ∃ u v, x = [u, v] ∧ u ≠ v ∧ u ∈ o ∧ v ∈ o ∧ beatsI xs u v := by
  intro x hx
  obtain ⟨u, v, rfl, h1, h2, h3⟩ := game_two ho (lenD_ok xs o).2 x hx
  obtain ⟨a, b, e⟩ := game_form xs o _ _ hx
  simp at e
  exact ⟨u, v, rfl, h1, h2, h3, won_beats ht e.1.symm e.2.symm h1 h2 h3⟩
/-- Who is left, and how many games there were. -/
theorem double_end (xs : List Int) {o : List Int} (ho : o.Nodup) (h0 : o ≠ []) : ∃ w q, placesD xs o = w :: q ∧ (doubleG xs o).length + 2 = 2 * o.length + lossOf (doubleG xs o) w ∧ lossOf (doubleG xs o) w ≤ 1 ∧ (∀ x ∈ q, lossOf (doubleG xs o) x = 2) ∧
    (∀ k ∈ o, (∀ b ∈ o, b ≠ k → beatsI xs k b ∧ ¬ beatsI xs b k) → w = k ∧ lossOf (doubleG xs o) w = 0) := by
  obtain ⟨w, hw⟩ := end_one xs h0
  have hl := loss_st (xs := xs) ho (j := lenD xs o) (lenD_ok xs o).2
  have hwt := st_weight xs o (j := lenD xs o) (lenD_ok xs o).2
  have hgl := doubleG_len xs o
  change lossOk (endD xs o) at hl
  change weight (endD xs o) + _ = _ at hwt
  refine ⟨w, (endD xs o).p.reverse, ?_, ?_, ?_, fun x hx => hl.p x (by simpa using hx), fun k hk hb => ?_⟩
  · unfold placesD
    rw [List.append_assoc, hw, List.reverse_append]; rfl
  · unfold weight at hwt
    cases hf : (endD xs o).f with
    | nil =>
      rw [hf] at hw hwt
      have h1 := hl.s w (by rw [List.nil_append] at hw; rw [hw]; simp)
      rw [List.nil_append] at hw
      rw [hw] at hwt
      simp at hwt
      show _ = _ + lossOf (endD xs o).g w
      omega
    | cons y r =>
      rw [hf] at hw hwt
      simp at hw
      obtain ⟨rfl, rfl, hs⟩ := hw
      have h1 := hl.f y (by rw [hf]; simp)
      rw [hs] at hwt
      simp at hwt
      show _ = _ + lossOf (endD xs o).g y
      omega
  · have hm : w ∈ (endD xs o).f ++ (endD xs o).s := by rw [hw]; simp
    rcases List.mem_append.1 hm with hm | hm
    · have := hl.f w hm; unfold doubleG; omega
    · have := hl.s w hm; unfold doubleG; omega
  · have key : ∀ j, j ≤ lenD xs o → k ∈ (stD xs o j).f := by
      intro j
      induction j with
      | zero => intro _; exact hk
      | succ j ih =>
        intro hj
        have hh : ∀ i, i < j → goOn (stD xs o i) := fun i hi => (lenD_ok xs o).2 i (by omega)
        have hg := (lenD_ok xs o).2 j (by omega)
        have hin := ih (by omega)
        have hp := perm_st xs o hh
        have hn := hp.nodup_iff.2 ho
        show k ∈ (stepD xs (stD xs o j)).f
        generalize stD xs o j = d at *
        have hmem : ∀ x ∈ d.f ++ d.s, x ∈ o := fun x hx => hp.mem_iff.1 (by unfold allD; simp at hx ⊢; rcases hx with hx | hx <;> simp [hx])
        unfold allD at hn
        rw [List.nodup_append, List.nodup_append] at hn
        obtain ⟨⟨hf, hs, hfs⟩, _, _⟩ := hn
        unfold goOn at hg
        unfold stepD
        split
        · rename_i h1
          have e := two_of h1
          have ha : d.f.getD 0 0 ∈ o := hmem _ (by rw [e]; simp)
          have hb' : d.f.getD 1 0 ∈ o := hmem _ (by rw [e]; simp)
          rw [e] at hin hf
          generalize d.f.getD 0 0 = a at *
          generalize d.f.getD 1 0 = b at *
          generalize d.f.drop 2 = r at *
          have hab : a ≠ b := by simp at hf; exact fun e => hf.1.1 e
          show k ∈ r ++ [won xs a b]
          rcases List.mem_cons.1 hin with rfl | hin
          · have : won xs k b = k := if_pos (hb b hb' (fun e => hab e.symm)).1
            rw [this]; simp
          · rcases List.mem_cons.1 hin with rfl | hin
            · have h2 := hb a ha hab
              unfold won
              split
              · rename_i h3
                exact absurd h3 h2.2
              · simp
            · simp [hin]
        · split
          · exact hin
          · rename_i h1 h2
            have e1 := one_of (l := d.f) (by have := List.length_pos_iff.2 (List.ne_nil_of_mem hin); omega)
            have e2 := one_of (l := d.s) (by have := List.length_pos_iff.2 (List.ne_nil_of_mem hin); omega)
            have hb' : d.s.getD 0 0 ∈ o := hmem _ (by rw [e2]; simp)
            rw [e1] at hin
            have hka : k = d.f.getD 0 0 := by simpa using hin
            have hne : d.s.getD 0 0 ≠ k := fun e => hfs k (by rw [e1]; simpa using hka) (d.s.getD 0 0) (by rw [e2]; simp) e.symm
            rw [if_pos (by rw [← hka]; exact (hb _ hb' hne).1)]
            rw [e1]; simpa using hka
    have hkf := key _ (Nat.le_refl _)
    change k ∈ (endD xs o).f at hkf
    have hkw : k ∈ (endD xs o).f ++ (endD xs o).s := by simp [hkf]
    rw [hw] at hkw
    have : k = w := by simpa using hkw
    subst this
    exact ⟨rfl, hl.f k hkf⟩

/-! ### How often all play -/
def playSum (g : List (List Int)) (l : List Int) : Nat := (l.map fun a => playsOf g a).sum
theorem playSum_snoc (g : List (List Int)) (l : List Int) (a : Int) : playSum g (l ++ [a]) = playSum g l + playsOf g a := by simp [playSum]
theorem plays_cons (x : List Int) (g : List (List Int)) (a : Int) : playsOf (x :: g) a = playsOf g a + if a ∈ x then 1 else 0 := by
  unfold playsOf; rw [List.countP_cons]; simp
theorem one_sum {u : Int} : ∀ {l : List Int}, l.Nodup → u ∈ l → (l.map fun a => if a = u then 1 else 0).sum = 1
  | [], _, h => by cases h
  | x :: l, hn, h => by
    rw [List.nodup_cons] at hn
    rw [List.map_cons, List.sum_cons]
    by_cases e : x = u
    · subst e
      have : (l.map fun a => if a = x then 1 else 0).sum = 0 := by
        have hz : ∀ l' : List Int, ¬ x ∈ l' → (l'.map fun a => if a = x then 1 else 0).sum = 0 := by
          intro l'
          induction l' with
          | nil => intro _; rfl
          | cons y l' ih => intro hh; simp at hh; rw [List.map_cons, List.sum_cons, ih hh.2, if_neg (fun e => hh.1 e.symm)]
        exact hz l hn.1
      rw [if_pos rfl, this]
    · rw [if_neg e]
      rcases List.mem_cons.1 h with rfl | h
      · exact absurd rfl e
      · rw [one_sum hn.2 h]
theorem two_sum {u v : Int} {l : List Int} (hn : l.Nodup) (huv : u ≠ v) (hu : u ∈ l) (hv : v ∈ l) : (l.map fun a => if a ∈ [u, v] then 1 else 0).sum = 2 := by
  have e : (l.map fun a => if a ∈ [u, v] then 1 else 0) = l.map fun a => (if a = u then 1 else 0) + if a = v then 1 else 0 := by
    apply List.map_congr_left
    intro a _
    by_cases h1 : a = u
    · subst h1; simp [huv]
    · by_cases h2 : a = v
      · subst h2; simp [h1]
      · simp [h1, h2]
  rw [e]
  have key : ∀ (f g : Int → Nat) (l : List Int), (l.map fun a => f a + g a).sum = (l.map f).sum + (l.map g).sum := by
    intro f g l
    induction l with
    | nil => rfl
    | cons x l ih => simp only [List.map_cons, List.sum_cons, ih]; omega
  rw [key, one_sum hn hu, one_sum hn hv]
theorem plays_all {l : List Int} (hn : l.Nodup) : ∀ g : List (List Int), (∀ x ∈ g, ∃ u v : Int, x = [u, v] ∧ u ≠ v ∧ u ∈ l ∧ v ∈ l) → playSum g l = 2 * g.length := by
  intro g
  induction g with
  | nil =>
    intro _
    have hz : ∀ l' : List Int, (l'.map fun a => playsOf [] a).sum = 0 := by
      intro l'
      induction l' with
      | nil => rfl
      | cons y l' ih => rw [List.map_cons, List.sum_cons, ih]; rfl
    exact hz l
  | cons x g ih =>
    intro h
    obtain ⟨u, v, rfl, h1, h2, h3⟩ := h x (by simp)
    have ih := ih (fun y hy => h y (by simp [hy]))
    have key : ∀ (f g : Int → Nat) (l : List Int), (l.map fun a => f a + g a).sum = (l.map f).sum + (l.map g).sum := by
      intro f g l
      induction l with
      | nil => rfl
      | cons x l ih => simp only [List.map_cons, List.sum_cons, ih]; omega
    have e : playSum ([u, v] :: g) l = playSum g l + (l.map fun a => if a ∈ [u, v] then 1 else 0).sum := by
      unfold playSum
      rw [← key]
      congr 1
      apply List.map_congr_left
      intro a _
      exact plays_cons _ _ _
    rw [e, ih, two_sum hn h1 h2 h3, List.length_cons]
    omega

/-! ### Single elimination -/
theorem stS_nodup (xs : List Int) {o : List Int} (ho : o.Nodup) : ∀ j, j + 1 ≤ o.length → (stS xs o j).r.Nodup := by
  intro j
  induction j with
  | zero => intro _; exact ho
  | succ j ih =>
    intro hj
    have ih := ih (by omega)
    have hl := (stS_len xs o (j := j) (by omega)).1
    have e := two_of (l := (stS xs o j).r) (by omega)
    show ((stS xs o j).r.drop 2 ++ [won xs ((stS xs o j).r.getD 0 0) ((stS xs o j).r.getD 1 0)]).Nodup
    rw [e] at ih
    generalize (stS xs o j).r.getD 0 0 = a at *
    generalize (stS xs o j).r.getD 1 0 = b at *
    generalize (stS xs o j).r.drop 2 = q at *
    rw [List.nodup_cons, List.nodup_cons] at ih
    rw [nodup_push]
    refine ⟨ih.2.2, ?_⟩
    rcases won_lost xs a b with ⟨h, _⟩ | ⟨h, _⟩ <;> rw [h]
    · intro hm; exact ih.1 (by simp [hm])
    · exact ih.2.1
theorem single_beats {xs o : List Int} (ho : o.Nodup) (ht : totalOn xs o) : ∀ j, j + 1 ≤ o.length → ∀ x ∈ (stS xs o j).g, ∃ u v, x = [u, v] ∧ u ∈ o ∧ v ∈ o ∧ beatsI xs u v := by
  intro j
  induction j with
  | zero => intro _ x hx; cases hx
  | succ j ih =>
    intro hj x hx
    have hn := stS_nodup xs ho j (by omega)
    have hl := (stS_len xs o (j := j) (by omega)).1
    have hm := stS_mem xs o (j := j) (by omega)
    have e := two_of (l := (stS xs o j).r) (by omega)
    change x ∈ (stS xs o j).g ++ [meetG xs ((stS xs o j).r.getD 0 0) ((stS xs o j).r.getD 1 0)] at hx
    rcases List.mem_append.1 hx with hx | hx
    · exact ih (by omega) x hx
    · rw [e] at hn hm
      generalize (stS xs o j).r.getD 0 0 = a at *
      generalize (stS xs o j).r.getD 1 0 = b at *
      have hab : a ≠ b := by rw [List.nodup_cons] at hn; intro e; exact hn.1 (by simp [e])
      have ha := hm a (by simp)
      have hb := hm b (by simp)
      obtain rfl : x = meetG xs a b := by simpa using hx
      rcases won_lost xs a b with ⟨w1, w2⟩ | ⟨w1, w2⟩
      · exact ⟨a, b, by unfold meetG; rw [w1, w2], ha, hb, won_beats ht w1 w2 hab ha hb⟩
      · exact ⟨b, a, by unfold meetG; rw [w1, w2], hb, ha, won_beats ht w1 w2 (fun e => hab e.symm) hb ha⟩
theorem single_last {xs o : List Int} {k : Int} (ho : o.Nodup) (hk : k ∈ o) (hb : ∀ b ∈ o, b ≠ k → beatsI xs k b ∧ ¬ beatsI xs b k) : ∀ j, j + 1 ≤ o.length → k ∈ (stS xs o j).r := by
  intro j
  induction j with
  | zero => intro _; exact hk
  | succ j ih =>
    intro hj
    have hin := ih (by omega)
    have hn := stS_nodup xs ho j (by omega)
    have hl := (stS_len xs o (j := j) (by omega)).1
    have hm := stS_mem xs o (j := j) (by omega)
    have e := two_of (l := (stS xs o j).r) (by omega)
    show k ∈ (stS xs o j).r.drop 2 ++ [won xs ((stS xs o j).r.getD 0 0) ((stS xs o j).r.getD 1 0)]
    rw [e] at hin hn hm
    generalize (stS xs o j).r.getD 0 0 = a at *
    generalize (stS xs o j).r.getD 1 0 = b at *
    generalize (stS xs o j).r.drop 2 = q at *
    have hab : a ≠ b := by rw [List.nodup_cons] at hn; intro e; exact hn.1 (by simp [e])
    rcases List.mem_cons.1 hin with rfl | hin
    · rw [show won xs k b = k from if_pos (hb b (hm b (by simp)) (fun e => hab e.symm)).1]; simp
    · rcases List.mem_cons.1 hin with rfl | hin
      · rw [show won xs a k = k from if_neg (hb a (hm a (by simp)) hab).2]; simp
      · simp [hin]
/-- The last game is won by the one who is left. -/
theorem single_end {xs o : List Int} {k : Int} (ho : o.Nodup) (hk : k ∈ o) (h2 : 2 ≤ o.length) (hb : ∀ b ∈ o, b ≠ k → beatsI xs k b ∧ ¬ beatsI xs b k) : ∃ v, (singleG xs o)[(singleG xs o).length - 1]? = some [k, v] := by
  obtain ⟨j, hj⟩ : ∃ j, o.length - 1 = j + 1 := ⟨o.length - 2, by omega⟩
  have h1 := single_last ho hk hb (j + 1) (by omega)
  have hl := stS_len xs o (j := j + 1) (by omega)
  have hlj := stS_len xs o (j := j) (by omega)
  unfold singleG
  rw [hj, hl.2]
  change k ∈ (stS xs o j).r.drop 2 ++ [won xs ((stS xs o j).r.getD 0 0) ((stS xs o j).r.getD 1 0)] at h1
  have hd : (stS xs o j).r.drop 2 = [] := List.length_eq_zero_iff.1 (by rw [List.length_drop]; omega)
  rw [hd] at h1
  have hw : k = won xs ((stS xs o j).r.getD 0 0) ((stS xs o j).r.getD 1 0) := by simpa using h1
  refine ⟨lostG xs ((stS xs o j).r.getD 0 0) ((stS xs o j).r.getD 1 0), ?_⟩
  show ((stS xs o j).g ++ [meetG xs ((stS xs o j).r.getD 0 0) ((stS xs o j).r.getD 1 0)])[j + 1 - 1]? = _
  rw [Nat.add_sub_cancel, List.getElem?_append_right (by omega), hlj.2, Nat.sub_self]
  unfold meetG
  rw [← hw]; rfl
/-- One who has as many wins as there are others beats them all. -/
theorem pc_others {n m k j : Nat} (hn : n ≤ 8) (hm : m < 2 ^ n) (hp : pc m = n - 1) (hk : k < n) (hb : m.testBit k = false) (hj : j < n) (hne : j ≠ k) : m.testBit j = true := by
  have h256 : 2 ^ n ≤ 2 ^ 8 := Nat.pow_le_pow_right (by omega) hn
  have h1 := or_bit m (by omega) k (by omega)
  rw [hb] at h1
  have hlt : m ||| 2 ^ k < 2 ^ n := Nat.or_lt_two_pow hm (Nat.pow_lt_pow_right (by omega) hk)
  have he := pc_full n (by omega) _ h1.1 hlt (by simp at h1; omega)
  have h2 := or_bit_get m (by omega) k (by omega) j (by omega)
  rw [he, Nat.testBit_two_pow_sub_one] at h2
  have h3 : (k == j) = false := by rw [beq_eq_false_iff_ne]; exact fun e => hne e.symm
  rw [h3, Bool.or_false] at h2
  rw [← h2]; simpa using hj

end Go.Proofs.YtbaljgdepicigaaDoor
/-
  Plain lemmas on Swiss rounds: no program.
-/
namespace Go.Proofs.YtbaljgdepicigaaDoor
open Go.RowKit
set_option linter.unusedVariables false

/-- Points of 2, 4, 6 or 8 players. -/
def isSwiss (xs : List Int) : Prop := (2 ≤ xs.length ∧ xs.length ≤ 8) ∧ xs.length % 2 = 0 ∧ ∀ x ∈ xs, 0 ≤ x ∧ x ≤ 100
instance (xs : List Int) : Decidable (isSwiss xs) := by unfold isSwiss; infer_instance
/-- Who has met whom. -/
def swissOk (xs ms : List Int) : Prop :=
  isSwiss xs ∧ ms.length = xs.length ∧ (∀ m ∈ ms, 0 ≤ m ∧ m ≤ 2 ^ ms.length - 1) ∧ ∀ a, a < ms.length → ¬ bitAt (ms.getD a 0) a = 1 ∧ ∀ b, b < a → bitAt (ms.getD a 0) b = bitAt (ms.getD b 0) a
instance (xs ms : List Int) : Decidable (swissOk xs ms) := by unfold swissOk; infer_instance
/-- Each has an opponent, whose opponent it is. -/
def pairsOk (n : Nat) (ps : List Int) : Prop :=
  ps.length = n ∧ ∀ a, a < ps.length → (0 ≤ ps.getD a 0 ∧ ps.getD a 0 ≤ (n : Int) - 1) ∧ ¬ ps.getD a 0 = (a : Int) ∧ ps.getD (ps.getD a 0).toNat 0 = (a : Int)
instance (n : Nat) (ps : List Int) : Decidable (pairsOk n ps) := by unfold pairsOk; infer_instance
def pairsTo (ps : List Int) (k : Nat) : Prop := ∀ a, a < k → ¬ ps.getD a 0 = (a : Int) ∧ ps.getD (ps.getD a 0).toNat 0 = (a : Int)
theorem pairsTo_succ {ps : List Int} {k j : Nat} (h : pairsTo ps k) (hx : ps[k]? = some (j : Int)) (hy : ps[j]? = some (k : Int)) (hne : ¬ (k : Int) = (j : Int)) : pairsTo ps (k + 1) := by
  intro a ha
  by_cases e : a = k
  · subst e
    simp only [List.getD, hx, Option.getD_some, Int.toNat_natCast, hy]
    exact ⟨fun e => hne e.symm, trivial⟩
  · exact h a (by omega)
theorem pairsTo_done {ps : List Int} {n : Nat} (h : pairsTo ps n) (hl : ps.length = n) (ha : ∀ x ∈ ps, 0 ≤ x ∧ x ≤ (n : Int) - 1) : pairsOk n ps := by
  refine ⟨hl, fun a hal => ⟨ha _ ?_, h a (by omega)⟩⟩
  rw [List.getD, List.getElem?_eq_getElem hal]
  exact List.getElem_mem _
theorem pairsOk_all {ps : List Int} {n : Nat} (h : pairsOk n ps) : ∀ x ∈ ps, 0 ≤ x ∧ x ≤ (n : Int) - 1 := by
  intro x hx
  obtain ⟨a, ha, rfl⟩ := List.getElem_of_mem hx
  have h1 := (h.2 a ha).1
  rwa [List.getD, List.getElem?_eq_getElem ha] at h1

/-! ### Sums -/
def sumTo (f : Nat → Int) : Nat → Int
  | 0 => 0
  | n + 1 => sumTo f n + f n
theorem sumTo_congr {f g : Nat → Int} {n : Nat} (h : ∀ i, i < n → f i = g i) : sumTo f n = sumTo g n := by
  induction n with
  | zero => rfl
  | succ n ih => simp only [sumTo]; rw [ih fun i hi => h i (by omega), h n (by omega)]
theorem sumTo_add (f g : Nat → Int) (n : Nat) : sumTo (fun i => f i + g i) n = sumTo f n + sumTo g n := by
  induction n with
  | zero => rfl
  | succ n ih => simp only [sumTo, ih]; omega
theorem sumTo_zero {f : Nat → Int} {n : Nat} (h : ∀ i, i < n → f i = 0) : sumTo f n = 0 := by
  induction n with
  | zero => rfl
  | succ n ih => simp only [sumTo]; rw [ih fun i hi => h i (by omega), h n (by omega)]; rfl
theorem sumTo_single {f : Nat → Int} {n j : Nat} (hj : j < n) (h : ∀ i, i < n → i ≠ j → f i = 0) : sumTo f n = f j := by
  induction n with
  | zero => omega
  | succ n ih =>
    simp only [sumTo]
    by_cases e : j = n
    · subst e
      rw [sumTo_zero fun i hi => h i (by omega) (by omega)]; omega
    · rw [ih (by omega) fun i hi hn => h i (by omega) hn, h n (by omega) (by omega)]; omega
theorem sumTo_swap (g : Nat → Nat → Int) (n m : Nat) : sumTo (fun a => sumTo (g a) m) n = sumTo (fun b => sumTo (fun a => g a b) n) m := by
  induction n with
  | zero => simp only [sumTo]; exact (sumTo_zero fun i _ => rfl).symm
  | succ n ih => simp only [sumTo]; rw [ih, ← sumTo_add]
/-- Over pairs: the sum over all is the sum over the lower ones of both. -/
theorem sumTo_pairs (f : Nat → Int) (p : Nat → Nat) (n : Nat) (h1 : ∀ a, a < n → p a < n) (h2 : ∀ a, a < n → p (p a) = a) (h3 : ∀ a, a < n → p a ≠ a) :
    sumTo f n = sumTo (fun a => if a < p a then f a + f (p a) else 0) n := by
  have e1 : sumTo f n = sumTo (fun a => (if a < p a then f a else 0) + (if p a < a then f a else 0)) n := sumTo_congr fun a ha => by
    have := h3 a ha
    by_cases e : a < p a
    · rw [if_pos e, if_neg (by omega)]; omega
    · rw [if_neg e, if_pos (by omega)]; omega
  have e2 : sumTo (fun b => if p b < b then f b else 0) n = sumTo (fun b => sumTo (fun a => if p a = b ∧ a < b then f b else 0) n) n := sumTo_congr fun b hb => by
    rw [sumTo_single (h1 b hb)]
    · rw [h2 b hb]
      by_cases e : p b < b <;> simp [e]
    · intro a ha hne
      rw [if_neg]
      rintro ⟨e, _⟩
      exact hne (by rw [← e, h2 a ha])
  have e3 : sumTo (fun a => sumTo (fun b => if p a = b ∧ a < b then f b else 0) n) n = sumTo (fun a => if a < p a then f (p a) else 0) n := sumTo_congr fun a ha => by
    rw [sumTo_single (h1 a ha)]
    · simp
    · intro b hb hne
      rw [if_neg]
      rintro ⟨e, _⟩
      exact hne e.symm
  rw [e1, sumTo_add, e2, ← sumTo_swap (fun a b => if p a = b ∧ a < b then f b else 0), e3, ← sumTo_add]
  exact sumTo_congr fun a ha => by by_cases e : a < p a <;> simp [e]

def pt (xs : List Int) (a : Nat) : Int := xs.getD a 0
def opp (ps : List Int) (a : Nat) : Nat := (ps.getD a 0).toNat
def drop1 (xs ps : List Int) (a : Nat) : Int := max 0 (pt xs a - pt xs (opp ps a))
def gap1 (xs ps : List Int) (a : Nat) : Int := if a < opp ps a then max (pt xs a - pt xs (opp ps a)) (pt xs (opp ps a) - pt xs a) else 0
theorem float_same {xs ps : List Int} {n : Nat} (h : pairsOk n ps) : sumTo (drop1 xs ps) n = sumTo (gap1 xs ps) n := by
  have hp : ∀ a, a < n → opp ps a < n ∧ opp ps (opp ps a) = a ∧ opp ps a ≠ a := fun a ha => by
    obtain ⟨h1, h2, h3⟩ := h.2 a (by rw [h.1]; exact ha)
    unfold opp
    exact ⟨by omega, by rw [h3]; simp, by omega⟩
  rw [sumTo_pairs (drop1 xs ps) (opp ps) n (fun a ha => (hp a ha).1) (fun a ha => (hp a ha).2.1) (fun a ha => (hp a ha).2.2)]
  refine sumTo_congr fun a ha => ?_
  simp only [drop1, gap1, (hp a ha).2.1]
  split
  · omega
  · rfl
theorem drop1_bound {xs ps : List Int} {n k : Nat} (hx : ∀ x ∈ xs, 0 ≤ x ∧ x ≤ 100) : 0 ≤ sumTo (drop1 xs ps) k ∧ sumTo (drop1 xs ps) k ≤ 100 * k := by
  have hb : ∀ a, 0 ≤ pt xs a ∧ pt xs a ≤ 100 := fun a => by
    unfold pt
    rw [List.getD]
    cases h : xs[a]? with
    | none => simp
    | some x => exact hx x (List.mem_of_getElem? h)
  induction k with
  | zero => simp [sumTo]
  | succ k ih =>
    have h1 := hb k
    have h2 := hb (opp ps k)
    simp only [sumTo, drop1]
    omega
theorem gap1_bound {xs ps : List Int} {k : Nat} (hx : ∀ x ∈ xs, 0 ≤ x ∧ x ≤ 100) : 0 ≤ sumTo (gap1 xs ps) k ∧ sumTo (gap1 xs ps) k ≤ 100 * k := by
  have hb : ∀ a, 0 ≤ pt xs a ∧ pt xs a ≤ 100 := fun a => by
    unfold pt
    rw [List.getD]
    cases h : xs[a]? with
    | none => simp
    | some x => exact hx x (List.mem_of_getElem? h)
  induction k with
  | zero => simp [sumTo]
  | succ k ih =>
    have h1 := hb k
    have h2 := hb (opp ps k)
    simp only [sumTo, gap1]
    split <;> omega
def floatOf (xs ps : List Int) : Int := if isSwiss xs ∧ pairsOk xs.length ps then sumTo (drop1 xs ps) xs.length else -1
theorem drop1_get {xs ps : List Int} {a j : Nat} {x y : Int} (hx : xs[a]? = some x) (hp : ps[a]? = some (j : Int)) (hy : xs[j]? = some y) : drop1 xs ps a = max 0 (x - y) := by
  simp [drop1, pt, opp, List.getD, hx, hp, hy]
theorem gap1_get {xs ps : List Int} {a j : Nat} {x y : Int} (hx : xs[a]? = some x) (hp : ps[a]? = some (j : Int)) (hy : xs[j]? = some y) : gap1 xs ps a = if a < j then max (x - y) (y - x) else 0 := by
  simp [gap1, pt, opp, List.getD, hx, hp, hy]
/-- A pairing in which nobody meets again. -/
def isPairing (xs ms ps : List Int) : Prop := swissOk xs ms ∧ pairsOk xs.length ps ∧ ∀ a, a < ps.length → ¬ bitAt (ms.getD a 0) (ps.getD a 0).toNat = 1
instance (xs ms ps : List Int) : Decidable (isPairing xs ms ps) := by unfold isPairing; infer_instance
def swissTo (ms : List Int) (k : Nat) : Prop := ∀ a, a < k → ¬ bitAt (ms.getD a 0) a = 1 ∧ ∀ b, b < a → bitAt (ms.getD a 0) b = bitAt (ms.getD b 0) a
theorem pow_pos' (n : Nat) : (1 : Int) ≤ 2 ^ n := by
  have h2 : 0 < (2 : Nat) ^ n := Nat.pow_pos (by omega)
  have h3 : ((2 ^ n : Nat) : Int) = (2 : Int) ^ n := by simp
  omega
theorem shr_bound {m : Int} (h0 : 0 ≤ m) (a : Nat) : 0 ≤ m / 2 ^ a ∧ m / 2 ^ a ≤ m := by
  have := pow_pos' a
  exact ⟨Int.ediv_nonneg h0 (by omega), Int.ediv_le_self _ h0⟩
theorem and_bit {m : Int} (h0 : 0 ≤ m) (h1 : m ≤ 9223372036854775807) (a : Nat) : bits BinOp.and IntKind.i64 (m / 2 ^ a) 1 = bitAt m a := by
  have := shr_bound h0 a
  exact and_one_i64 _ this.1 (by omega)
theorem swissTo_succ {ms : List Int} {a : Nat} (h : swissTo ms a) (h1 : ¬ bitAt (ms.getD a 0) a = 1) (h2 : ∀ b, b < a → bitAt (ms.getD a 0) b = bitAt (ms.getD b 0) a) : swissTo ms (a + 1) := by
  intro a' ha'
  by_cases e : a' = a
  · subst e; exact ⟨h1, h2⟩
  · exact h a' (by omega)
theorem swiss_not {xs ms : List Int} {a b n : Nat} {m y : Int} (hl : ms.length = n) (ha : a < n) (hb : b < n) (hm : ms[a]? = some m) (hy : ms[b]? = some y) (hne : ¬ bitAt m b = bitAt y a) : ¬ swissOk xs ms := by
  intro hs
  have g1 : ms.getD a 0 = m := by simp [List.getD, hm]
  have g2 : ms.getD b 0 = y := by simp [List.getD, hy]
  rcases Nat.lt_trichotomy b a with h | h | h
  · have := (hs.2.2.2 a (by omega)).2 b h
    rw [g1, g2] at this
    exact hne this
  · subst h
    rw [hm] at hy
    cases hy
    exact hne rfl
  · have := (hs.2.2.2 b (by omega)).2 a h
    rw [g1, g2] at this
    exact hne this.symm
theorem pow_small {n : Nat} (h : n ≤ 8) : (1 : Int) ≤ 2 ^ n ∧ (2 : Int) ^ n ≤ 256 := by
  have h1 : (2 : Nat) ^ n ≤ 2 ^ 8 := Nat.pow_le_pow_right (by omega) h
  have h2 : 0 < (2 : Nat) ^ n := Nat.pow_pos (by omega)
  have h3 : ((2 ^ n : Nat) : Int) = (2 : Int) ^ n := by simp
  omega
theorem wrap_pow {n : Nat} (h : n ≤ 8) : wrap64 (2 ^ n) = 2 ^ n ∧ wrap64 ((2 : Int) ^ n - 1) = 2 ^ n - 1 := by
  have := pow_small h
  constructor <;> (unfold wrap64; omega)

end Go.Proofs.YtbaljgdepicigaaDoor
/-
  Plain lemmas on all pairings of players who have not met: no program.
-/
namespace Go.Proofs.YtbaljgdepicigaaDoor
set_option linter.unusedVariables false

def frP (ps : List Int) (a : Int) : Bool := decide (ps.getD a.toNat 0 < 0)
/-- Have met. -/
def mtP (ms : List Int) (a b : Int) : Bool := decide (bitAt (ms.getD a.toNat 0) b.toNat = 1)
/-- All pairings that the program yields, from a state on. -/
def fillStep (ms ps : List Int) (a : Int) (next : List Int → List (List Int)) (b : Int) : List (List Int) :=
  if ¬ frP ps b = true ∨ mtP ms a b = true then [] else next ((ps.set a.toNat b).set b.toNat a)
def fillL (order ms : List Int) : Nat → List Int → List (List Int)
  | 0, _ => []
  | k + 1, ps => if idxF (frP ps) order < 0 then [ps] else
      (order.drop ((idxF (frP ps) order).toNat + 1)).flatMap (fillStep ms ps (order.getD (idxF (frP ps) order).toNat 0) (fillL order ms k))
/-- All pairings of the reference. -/
def allStep (ms left ps : List Int) (next : List Int → List Int → List (List Int)) (i : Nat) : List (List Int) :=
  if i = 0 ∨ mtP ms (left.getD 0 0) (left.getD i 0) = true then [] else next ((left.take i).drop 1 ++ left.drop (i + 1)) ((ps.set (left.getD 0 0).toNat (left.getD i 0)).set (left.getD i 0).toNat (left.getD 0 0))
def allL (ms : List Int) : Nat → List Int → List Int → List (List Int)
  | 0, _, _ => []
  | k + 1, left, ps => if left.length = 0 then [ps] else (List.range left.length).flatMap (allStep ms left ps (allL ms k))
/-- How many are free. -/
def nfree (ps : List Int) : Nat := ps.countP fun x => decide (x < 0)
theorem nfree_set {ps : List Int} {i : Nat} {x v : Int} (h : ps[i]? = some x) (hx : x < 0) (hv : 0 ≤ v) : nfree (ps.set i v) + 1 = nfree ps := by
  induction ps generalizing i with
  | nil => simp at h
  | cons y ps ih =>
    cases i with
    | zero =>
      simp at h; subst h
      have h0 : ¬ v < 0 := by omega
      simp [nfree, hx, h0]
    | succ i =>
      simp at h
      have := ih h
      simp only [nfree, List.set_cons_succ, List.countP_cons] at this ⊢
      omega
/-- An order of the numbers below n. -/
def ordOf (n : Nat) (order : List Int) : Prop := order.Nodup ∧ order.length = n ∧ (∀ x ∈ order, 0 ≤ x ∧ x < (n : Int)) ∧ ∀ i : Nat, i < n → (i : Int) ∈ order
/-- A part of a pairing. -/
structure partP (n : Nat) (ps : List Int) : Prop where
  len : ps.length = n
  low : ∀ i : Nat, i < n → ps.getD i 0 < 0 → ps.getD i 0 = -1
  ok : ∀ i : Nat, i < n → ¬ ps.getD i 0 < 0 → ps.getD i 0 < (n : Int) ∧ ps.getD i 0 ≠ (i : Int) ∧ ps.getD (ps.getD i 0).toNat 0 = (i : Int)
theorem frP_nat (ps : List Int) (i : Nat) : frP ps (i : Int) = decide (ps.getD i 0 < 0) := by simp [frP]
theorem getD_set2 {l : List Int} {i : Nat} (h : i < l.length) (v : Int) (j : Nat) : (l.set i v).getD j 0 = if i = j then v else l.getD j 0 := by
  rw [List.getD, List.getElem?_set]
  by_cases e : i = j
  · subst e; simp [h]
  · simp [e, List.getD]
theorem getD_set3 {l : List Int} {i k : Nat} (h : i < l.length) (hk : k < l.length) (u v : Int) (j : Nat) : ((l.set i u).set k v).getD j 0 = if k = j then v else if i = j then u else l.getD j 0 := by
  rw [getD_set2 (by simpa using hk), getD_set2 h]
/-- One pair more. -/
theorem partP.pair {n : Nat} {ps : List Int} (h : partP n ps) {a b : Nat} (ha : a < n) (hb : b < n) (hab : a ≠ b) (hfa : ps.getD a 0 < 0) (hfb : ps.getD b 0 < 0) : partP n ((ps.set a (b : Int)).set b (a : Int)) := by
  have hl := h.len
  refine ⟨by simp [hl], fun i hi hf => ?_, fun i hi hf => ?_⟩
  · rw [getD_set3 (by omega) (by omega)] at hf ⊢
    split at hf
    · omega
    · split at hf
      · omega
      · rename_i h1 h2; rw [if_neg h1, if_neg h2]; exact h.low i hi hf
  · rw [getD_set3 (by omega) (by omega)] at hf
    rw [getD_set3 (by omega) (by omega) _ _ i]
    by_cases e1 : b = i
    · rw [if_pos e1]
      refine ⟨by omega, by omega, ?_⟩
      rw [getD_set3 (by omega) (by omega), Int.toNat_natCast, if_neg (by omega), if_pos rfl]
      omega
    · rw [if_neg e1]
      by_cases e2 : a = i
      · rw [if_pos e2]
        refine ⟨by omega, by omega, ?_⟩
        rw [getD_set3 (by omega) (by omega), Int.toNat_natCast, if_pos rfl]
        omega
      · rw [if_neg e2]
        rw [if_neg e1, if_neg e2] at hf
        obtain ⟨h1, h2, h3⟩ := h.ok i hi hf
        refine ⟨h1, h2, ?_⟩
        rw [getD_set3 (by omega) (by omega), if_neg, if_neg, h3]
        · intro e; rw [← e] at h3; omega
        · intro e; rw [← e] at h3; omega
theorem nfree_pair {n : Nat} {ps : List Int} (hl : ps.length = n) {a b : Nat} (ha : a < n) (hb : b < n) (hab : a ≠ b) (hfa : ps.getD a 0 < 0) (hfb : ps.getD b 0 < 0) : nfree ((ps.set a (b : Int)).set b (a : Int)) + 2 = nfree ps := by
  have e1 : ps[a]? = some (ps.getD a 0) := by rw [List.getD, List.getElem?_eq_getElem (by omega)]; rfl
  have e2 : (ps.set a (b : Int))[b]? = some (ps.getD b 0) := by rw [List.getElem?_set, if_neg hab, List.getD, List.getElem?_eq_getElem (by omega)]; rfl
  have h1 := nfree_set (v := (b : Int)) e1 hfa (by omega)
  have h2 := nfree_set (v := (a : Int)) e2 hfb (by omega)
  omega
/-- A whole pairing that goes on from a part. -/
structure extP (n : Nat) (ms ps p : List Int) : Prop where
  ok : pairsOk n p
  ext : ∀ i : Nat, i < n → ¬ ps.getD i 0 < 0 → p.getD i 0 = ps.getD i 0
  new : ∀ i : Nat, i < n → ps.getD i 0 < 0 → ¬ bitAt (ms.getD i 0) (p.getD i 0).toNat = 1
/-- Where the first free one stands. -/
theorem idxF_at {α : Type} {p : α → Bool} {xs : List α} (h : ¬ idxF p xs < 0) : ∃ x, xs[(idxF p xs).toNat]? = some x ∧ p x = true ∧ ∀ y ∈ xs.take (idxF p xs).toNat, p y = false := by
  induction xs with
  | nil => simp [idxF] at h
  | cons x xs ih =>
    have hb := idxF_bound p xs
    by_cases hx : p x = true
    · have e : idxF p (x :: xs) = 0 := by simp [idxF, hx]
      rw [e]; exact ⟨x, rfl, hx, by simp⟩
    · have hx' : p x = false := by simpa using hx
      by_cases h0 : idxF p xs < 0
      · exfalso
        have : idxF p (x :: xs) = -1 := idxF_miss fun y hy => by
          rcases List.mem_cons.1 hy with rfl | hy
          · exact hx'
          · have h1 := mt idxF_ge.2 (by omega : ¬ 0 ≤ idxF p xs)
            cases hp : p y with
            | false => rfl
            | true => exact absurd ⟨y, hy, hp⟩ h1
        omega
      · obtain ⟨z, hz, hpz, hn⟩ := ih h0
        have e : idxF p (x :: xs) = (((idxF p xs).toNat + 1 : Nat) : Int) := idxF_hit (k := (idxF p xs).toNat + 1) (x := z) (fun y hy => by
          rw [List.take_succ_cons] at hy
          rcases List.mem_cons.1 hy with rfl | hy
          · exact hx'
          · exact hn y hy) (by simpa using hz) hpz
        rw [e, Int.toNat_natCast]
        refine ⟨z, by simpa using hz, hpz, fun y hy => ?_⟩
        rw [List.take_succ_cons] at hy
        rcases List.mem_cons.1 hy with rfl | hy
        · exact hx'
        · exact hn y hy
theorem idxF_no {α : Type} {p : α → Bool} {xs : List α} (h : idxF p xs < 0) : ∀ y ∈ xs, p y = false := by
  intro y hy
  cases hp : p y with
  | false => rfl
  | true => exact absurd (idxF_ge.2 ⟨y, hy, hp⟩) (by omega)
theorem split_at {α : Type} {xs : List α} {k : Nat} {x : α} (h : xs[k]? = some x) : xs = xs.take k ++ x :: xs.drop (k + 1) := by
  have hk := (List.getElem?_eq_some_iff.1 h).1
  have e : xs[k] = x := (List.getElem?_eq_some_iff.1 h).2
  conv => lhs; rw [← List.take_append_drop k xs, List.drop_eq_getElem_cons hk, e]
/-- The walk's view of one step: the first free one, a, and the ones behind it. -/
theorem fill_at {n : Nat} {order ps : List Int} (ho : ordOf n order) (hl : ps.length = n) (h : ¬ idxF (frP ps) order < 0) :
    ∃ a : Nat, a < n ∧ order[(idxF (frP ps) order).toNat]? = some (a : Int) ∧ ps.getD a 0 < 0 ∧ (∀ y ∈ order.take (idxF (frP ps) order).toNat, frP ps y = false) ∧ ¬ (a : Int) ∈ order.drop ((idxF (frP ps) order).toNat + 1) := by
  obtain ⟨x, hx, hp, hn⟩ := idxF_at h
  have hm := ho.2.2.1 x (List.mem_of_getElem? hx)
  obtain ⟨a, rfl⟩ : ∃ a : Nat, x = (a : Int) := ⟨x.toNat, by omega⟩
  refine ⟨a, by omega, hx, by simpa [frP] using hp, hn, fun hd => ?_⟩
  have hnd := ho.1
  rw [split_at hx] at hnd
  have := (List.nodup_cons.1 (List.nodup_append.1 hnd).2.1).1
  exact this hd
theorem fillL_succ {n : Nat} {order ms ps : List Int} {k : Nat} {a at_ : Nat} (he : idxF (frP ps) order = (at_ : Int)) (ha : order[at_]? = some (a : Int)) :
    fillL order ms (k + 1) ps = (order.drop (at_ + 1)).flatMap (fillStep ms ps (a : Int) (fillL order ms k)) := by
  simp only [fillL, he, Int.toNat_natCast]
  rw [if_neg (by omega), List.getD, ha]; rfl
theorem mem_fillStep {ms ps : List Int} {a : Int} {next : List Int → List (List Int)} {b : Int} {p : List Int} :
    p ∈ fillStep ms ps a next b ↔ frP ps b = true ∧ ¬ mtP ms a b = true ∧ p ∈ next ((ps.set a.toNat b).set b.toNat a) := by
  unfold fillStep
  by_cases h1 : frP ps b = true <;> by_cases h2 : mtP ms a b = true <;> simp [h1, h2]
theorem mem_fillL {n : Nat} {order ms : List Int} (ho : ordOf n order) (hs : ∀ a b : Nat, a < n → b < n → bitAt (ms.getD a 0) b = bitAt (ms.getD b 0) a) : ∀ (k : Nat) (ps : List Int), partP n ps → nfree ps < k → ∀ p, p ∈ fillL order ms k ps ↔ extP n ms ps p := by
  intro k
  induction k with
  | zero => intro ps _ h; omega
  | succ k ih =>
    intro ps hp hf p
    have hl := hp.len
    by_cases h0 : idxF (frP ps) order < 0
    · have hall : ∀ i : Nat, i < n → ¬ ps.getD i 0 < 0 := fun i hi hlt => by
        have := idxF_no h0 (i : Int) (ho.2.2.2 i hi)
        rw [frP_nat] at this
        exact absurd hlt (by simpa using this)
      simp only [fillL, if_pos h0, List.mem_singleton]
      constructor
      · rintro rfl
        refine ⟨⟨hl, fun a ha => ?_⟩, fun _ _ _ => rfl, fun i hi hlt => absurd hlt (hall i hi)⟩
        have h1 := hall a (by omega)
        obtain ⟨h2, h3, h4⟩ := hp.ok a (by omega) h1
        exact ⟨⟨by omega, by omega⟩, h3, h4⟩
      · intro he
        refine List.ext_getElem? fun i => ?_
        by_cases hi : i < n
        · have := he.ext i hi (hall i hi)
          have hpl := he.ok.1
          rw [List.getD, List.getD, List.getElem?_eq_getElem (by omega), List.getElem?_eq_getElem (by omega)] at this
          rw [List.getElem?_eq_getElem (by omega), List.getElem?_eq_getElem (by omega)]
          simpa using this
        · rw [List.getElem?_eq_none (by rw [he.ok.1]; omega), List.getElem?_eq_none (by omega)]
    · obtain ⟨a, ha, hat, hfa, hbefore, hnin⟩ := fill_at ho hl h0
      have hb := idxF_bound (frP ps) order
      obtain ⟨q, hq⟩ : ∃ q : Nat, idxF (frP ps) order = (q : Int) := ⟨(idxF (frP ps) order).toNat, by omega⟩
      rw [hq, Int.toNat_natCast] at hat hbefore hnin
      rw [fillL_succ (n := n) hq hat]
      simp only [List.mem_flatMap, mem_fillStep]
      constructor
      · rintro ⟨b, hbm, hfb, hmb, hmem⟩
        have hbo := ho.2.2.1 b (List.mem_of_mem_drop hbm)
        obtain ⟨b, rfl⟩ : ∃ b' : Nat, b = (b' : Int) := ⟨b.toNat, by omega⟩
        rw [frP_nat] at hfb
        have hfb' : ps.getD b 0 < 0 := by simpa using hfb
        have hab : a ≠ b := fun e => hnin (e ▸ hbm)
        rw [Int.toNat_natCast, Int.toNat_natCast] at hmem
        have hmb' : ¬ bitAt (ms.getD a 0) b = 1 := by simpa [mtP] using hmb
        have hnf := nfree_pair hl ha (by omega) hab hfa hfb'
        have he := (ih _ (hp.pair ha (by omega) hab hfa hfb') (by omega) p).1 hmem
        have ea : p.getD a 0 = (b : Int) := by rw [he.ext a ha (by rw [getD_set3 (by omega) (by omega), if_neg (by omega), if_pos rfl]; omega), getD_set3 (by omega) (by omega), if_neg (by omega), if_pos rfl]
        have eb : p.getD b 0 = (a : Int) := by rw [he.ext b (by omega) (by rw [getD_set3 (by omega) (by omega), if_pos rfl]; omega), getD_set3 (by omega) (by omega), if_pos rfl]
        refine ⟨he.ok, fun i hi hnf => ?_, fun i hi hfi => ?_⟩
        · have e1 : b ≠ i := fun e => hnf (e ▸ hfb')
          have e2 : a ≠ i := fun e => hnf (e ▸ hfa)
          rw [he.ext i hi (by rw [getD_set3 (by omega) (by omega), if_neg e1, if_neg e2]; exact hnf), getD_set3 (by omega) (by omega), if_neg e1, if_neg e2]
        · by_cases e1 : b = i
          · subst e1; rw [eb, Int.toNat_natCast, ← hs a b ha hi]; exact hmb'
          · by_cases e2 : a = i
            · subst e2; rw [ea, Int.toNat_natCast]; exact hmb'
            · exact he.new i hi (by rw [getD_set3 (by omega) (by omega), if_neg e1, if_neg e2]; exact hfi)
      · intro he
        have hok := he.ok.2 a (by rw [he.ok.1]; exact ha)
        obtain ⟨b, hb'⟩ : ∃ b : Nat, p.getD a 0 = (b : Int) := ⟨(p.getD a 0).toNat, by omega⟩
        rw [hb', Int.toNat_natCast] at hok
        have hbn : b < n := by omega
        have hab : a ≠ b := by omega
        have hfb : ps.getD b 0 < 0 := by
          rcases Int.lt_or_le (ps.getD b 0) 0 with e | e
          · exact e
          · exfalso
            have h1 := hp.ok b hbn (by omega)
            have h2 := he.ext b hbn (by omega)
            rw [hok.2.2] at h2
            rw [← h2, Int.toNat_natCast] at h1
            omega
        have hnf := nfree_pair hl ha hbn hab hfa hfb
        have hbd : (b : Int) ∈ order.drop (q + 1) := by
          have hm := ho.2.2.2 b hbn
          rw [split_at hat] at hm
          rcases List.mem_append.1 hm with hm | hm
          · have := hbefore _ hm
            rw [frP_nat] at this
            exact absurd hfb (by simpa using this)
          · rcases List.mem_cons.1 hm with hm | hm
            · omega
            · exact hm
        refine ⟨(b : Int), hbd, by rw [frP_nat]; simpa using hfb, ?_, ?_⟩
        · have := he.new a ha hfa
          rw [hb', Int.toNat_natCast] at this
          simpa [mtP] using this
        · rw [Int.toNat_natCast, Int.toNat_natCast]
          refine (ih _ (hp.pair ha hbn hab hfa hfb) (by omega) p).2 ⟨he.ok, fun i hi h => ?_, fun i hi h => ?_⟩
          · rw [getD_set3 (by omega) (by omega)] at h ⊢
            by_cases e1 : b = i
            · subst e1; rw [if_pos rfl]; exact hok.2.2
            · by_cases e2 : a = i
              · subst e2; rw [if_neg e1, if_pos rfl]; exact hb'
              · rw [if_neg e1, if_neg e2] at h ⊢; exact he.ext i hi h
          · rw [getD_set3 (by omega) (by omega)] at h
            split at h
            · omega
            · split at h
              · omega
              · exact he.new i hi h
theorem nodup_flatMap_of {α β : Type} {l : List α} {f : α → List β} (hl : l.Nodup) (h1 : ∀ x ∈ l, (f x).Nodup) (h2 : ∀ x ∈ l, ∀ y ∈ l, x ≠ y → ∀ z, z ∈ f x → ¬ z ∈ f y) : (l.flatMap f).Nodup := by
  induction l with
  | nil => simp
  | cons x l ih =>
    rw [List.flatMap_cons, List.nodup_append]
    rw [List.nodup_cons] at hl
    refine ⟨h1 x (by simp), ih hl.2 (fun y hy => h1 y (by simp [hy])) (fun y hy z hz => h2 y (by simp [hy]) z (by simp [hz])), fun z hz u hu e => ?_⟩
    subst e
    obtain ⟨y, hy, hzy⟩ := List.mem_flatMap.1 hu
    exact h2 x (by simp) y (by simp [hy]) (fun e => hl.1 (e ▸ hy)) z hz hzy
theorem nodup_fillL {n : Nat} {order ms : List Int} (ho : ordOf n order) (hs : ∀ a b : Nat, a < n → b < n → bitAt (ms.getD a 0) b = bitAt (ms.getD b 0) a) : ∀ (k : Nat) (ps : List Int), partP n ps → nfree ps < k → (fillL order ms k ps).Nodup := by
  intro k
  induction k with
  | zero => intro ps _ h; omega
  | succ k ih =>
    intro ps hp hf
    have hl := hp.len
    by_cases h0 : idxF (frP ps) order < 0
    · simp [fillL, if_pos h0]
    · obtain ⟨a, ha, hat, hfa, hbefore, hnin⟩ := fill_at ho hl h0
      obtain ⟨q, hq⟩ : ∃ q : Nat, idxF (frP ps) order = (q : Int) := ⟨(idxF (frP ps) order).toNat, by omega⟩
      rw [hq, Int.toNat_natCast] at hat hbefore hnin
      rw [fillL_succ (n := n) hq hat]
      have key : ∀ b ∈ order.drop (q + 1), frP ps b = true → ∃ b' : Nat, b = (b' : Int) ∧ b' < n ∧ a ≠ b' ∧ ps.getD b' 0 < 0 := fun b hb hfb => by
        have hbo := ho.2.2.1 b (List.mem_of_mem_drop hb)
        obtain ⟨b, rfl⟩ : ∃ b' : Nat, b = (b' : Int) := ⟨b.toNat, by omega⟩
        rw [frP_nat] at hfb
        exact ⟨b, rfl, by omega, fun e => hnin (e ▸ hb), by simpa using hfb⟩
      refine nodup_flatMap_of (ho.1.sublist (List.drop_sublist _ _)) (fun b hb => ?_) (fun b hb c hc hne p hpb hpc => ?_)
      · unfold fillStep
        split
        · simp
        · rename_i hns
          have hfb : frP ps b = true := by
            cases h : frP ps b with
            | true => rfl
            | false => exact absurd (.inl (by simp [h])) hns
          obtain ⟨b, rfl, hbn, hab, hfb'⟩ := key b hb hfb
          rw [Int.toNat_natCast, Int.toNat_natCast]
          have hnf := nfree_pair hl ha hbn hab hfa hfb'
          exact ih _ (hp.pair ha hbn hab hfa hfb') (by omega)
      · have pa : ∀ b ∈ order.drop (q + 1), p ∈ fillStep ms ps (a : Int) (fillL order ms k) b → p.getD a 0 = b := fun b hb hpb => by
          obtain ⟨hfb, _, hm⟩ := mem_fillStep.1 hpb
          obtain ⟨b, rfl, hbn, hab, hfb'⟩ := key b hb hfb
          rw [Int.toNat_natCast, Int.toNat_natCast] at hm
          have hnf := nfree_pair hl ha hbn hab hfa hfb'
          have he := (mem_fillL ho hs k _ (hp.pair ha hbn hab hfa hfb') (by omega) p).1 hm
          rw [he.ext a ha (by rw [getD_set3 (by omega) (by omega), if_neg (by omega), if_pos rfl]; omega), getD_set3 (by omega) (by omega), if_neg (by omega), if_pos rfl]
        exact hne ((pa b hb hpb).symm.trans (pa c hc hpc))
theorem fill_perm {n : Nat} {o1 o2 ms : List Int} (h1 : ordOf n o1) (h2 : ordOf n o2) (hs : ∀ a b : Nat, a < n → b < n → bitAt (ms.getD a 0) b = bitAt (ms.getD b 0) a) {k : Nat} {ps : List Int} (hp : partP n ps) (hf : nfree ps < k) :
    (fillL o1 ms k ps).Perm (fillL o2 ms k ps) :=
  (List.perm_ext_iff_of_nodup (nodup_fillL h1 hs k ps hp hf) (nodup_fillL h2 hs k ps hp hf)).2 fun p => by rw [mem_fillL h1 hs k ps hp hf, mem_fillL h2 hs k ps hp hf]

/-! ### The reference goes the same way -/
theorem range_flat {α β : Type} (l : List α) (d : α) (g : α → List β) : (List.range l.length).flatMap (fun i => g (l.getD i d)) = l.flatMap g := by
  have : (List.range l.length).map (fun i => l.getD i d) = l := by
    refine List.ext_getElem? fun i => ?_
    rw [List.getElem?_map]
    by_cases hi : i < l.length
    · simp [hi]
    · rw [List.getElem?_eq_none (by simp; omega), List.getElem?_eq_none (by omega)]; rfl
  conv => rhs; rw [← this]
  rw [List.flatMap_map]
theorem flatMap_congr_of {α β : Type} {l : List α} {f g : α → List β} (h : ∀ x ∈ l, f x = g x) : l.flatMap f = l.flatMap g := by
  induction l with
  | nil => rfl
  | cons x l ih => rw [List.flatMap_cons, List.flatMap_cons, h x (by simp), ih fun y hy => h y (by simp [hy])]
theorem flatMap_filter_of {α β : Type} (l : List α) (p : α → Bool) (g : α → List β) (h : ∀ x ∈ l, p x = false → g x = []) : (l.filter p).flatMap g = l.flatMap g := by
  induction l with
  | nil => rfl
  | cons x l ih =>
    rw [List.flatMap_cons, List.filter_cons]
    have ih := ih fun y hy => h y (by simp [hy])
    cases hx : p x with
    | true => simp [ih]
    | false => rw [h x (by simp) hx]; simpa using ih
theorem erase_at {l : List Int} (hn : l.Nodup) {i : Nat} {x : Int} (h : l[i]? = some x) : l.take i ++ l.drop (i + 1) = l.filter (fun y => decide (y ≠ x)) := by
  have e := split_at h
  rw [e] at hn
  have h2 := List.nodup_append.1 hn
  have h3 := List.nodup_cons.1 h2.2.1
  conv => rhs; rw [e]
  rw [List.filter_append, List.filter_cons]
  simp only [ne_eq, not_true_eq_false, decide_false, Bool.false_eq_true, if_false]
  congr 1
  · symm; rw [List.filter_eq_self]; intro y hy; exact decide_eq_true (fun e => h2.2.2 y hy x (by simp) e)
  · symm; rw [List.filter_eq_self]; intro y hy; exact decide_eq_true (fun e => h3.1 (by rw [← e]; exact hy))
theorem allL_eq {n : Nat} {order ms : List Int} (ho : ordOf n order) : ∀ (k : Nat) (ps qs : List Int), partP n ps → nfree ps < k → qs.length = n → (∀ i : Nat, i < n → ¬ ps.getD i 0 < 0 → qs.getD i 0 = ps.getD i 0) →
    allL ms k (order.filter (frP ps)) qs = fillL order ms k ps := by
  intro k
  induction k with
  | zero => intro ps qs _ h; omega
  | succ k ih =>
    intro ps qs hp hf hql hqs
    have hl := hp.len
    by_cases h0 : idxF (frP ps) order < 0
    · have hno := idxF_no h0
      have hnil : order.filter (frP ps) = [] := by rw [List.filter_eq_nil_iff]; intro a ha; simp [hno a ha]
      rw [hnil]
      simp only [allL, fillL, if_pos h0, List.length_nil, if_true]
      congr 1
      refine List.ext_getElem? fun i => ?_
      by_cases hi : i < n
      · have h1 : ¬ ps.getD i 0 < 0 := fun hlt => by
          have := hno (i : Int) (ho.2.2.2 i hi)
          rw [frP_nat] at this
          exact absurd hlt (by simpa using this)
        have := hqs i hi h1
        rw [List.getD, List.getD, List.getElem?_eq_getElem (by omega), List.getElem?_eq_getElem (by omega)] at this
        rw [List.getElem?_eq_getElem (by omega), List.getElem?_eq_getElem (by omega)]
        simpa using this
      · rw [List.getElem?_eq_none (by omega), List.getElem?_eq_none (by omega)]
    · obtain ⟨a, ha, hat, hfa, hbefore, hnin⟩ := fill_at ho hl h0
      obtain ⟨q, hq⟩ : ∃ q : Nat, idxF (frP ps) order = (q : Int) := ⟨(idxF (frP ps) order).toNat, by omega⟩
      rw [hq, Int.toNat_natCast] at hat hbefore hnin
      rw [fillL_succ (n := n) hq hat]
      have hleft : order.filter (frP ps) = (a : Int) :: (order.drop (q + 1)).filter (frP ps) := by
        conv => lhs; rw [split_at hat]
        rw [List.filter_append, List.filter_cons]
        have e1 : (order.take q).filter (frP ps) = [] := by rw [List.filter_eq_nil_iff]; intro y hy; simp [hbefore y hy]
        rw [e1, frP_nat, if_pos (by simpa using hfa), List.nil_append]
      have hnd : ((order.drop (q + 1)).filter (frP ps)).Nodup := (ho.1.sublist (List.drop_sublist _ _)).sublist List.filter_sublist
      rw [hleft]
      simp only [allL, List.length_cons]
      rw [if_neg (by omega), List.range_succ_eq_map, List.flatMap_cons, List.flatMap_map]
      have e0 : allStep ms ((a : Int) :: (order.drop (q + 1)).filter (frP ps)) qs (allL ms k) 0 = [] := by simp [allStep]
      rw [e0, List.nil_append, ← flatMap_filter_of (order.drop (q + 1)) (frP ps) _ (fun x _ hx => by unfold fillStep; rw [if_pos (.inl (by simp [hx]))]), ← range_flat ((order.drop (q + 1)).filter (frP ps)) 0 (fillStep ms ps (a : Int) (fillL order ms k))]
      refine flatMap_congr_of fun i hi => ?_
      have hil : i < ((order.drop (q + 1)).filter (frP ps)).length := List.mem_range.1 hi
      obtain ⟨b, hb⟩ : ∃ b, ((order.drop (q + 1)).filter (frP ps))[i]? = some b := ⟨_, List.getElem?_eq_getElem hil⟩
      have hbd : ((order.drop (q + 1)).filter (frP ps)).getD i 0 = b := by rw [List.getD, hb]; rfl
      have hbm := List.mem_filter.1 (List.mem_of_getElem? hb)
      have hbo := ho.2.2.1 b (List.mem_of_mem_drop hbm.1)
      obtain ⟨b, rfl⟩ : ∃ b' : Nat, b = (b' : Int) := ⟨b.toNat, by omega⟩
      have hfb : ps.getD b 0 < 0 := by have := hbm.2; rw [frP_nat] at this; simpa using this
      have hab : a ≠ b := fun e => hnin (e ▸ hbm.1)
      have hnf := nfree_pair hl ha (by omega) hab hfa hfb
      have hpp := hp.pair ha (by omega) hab hfa hfb
      rw [hbd]
      unfold allStep fillStep
      simp only [List.getD_cons_zero, List.getD_cons_succ, Nat.succ_eq_add_one, hbd]
      rw [hbm.2]
      simp only [not_true_eq_false, false_or, Nat.succ_ne_zero]
      split
      · rfl
      · rw [Int.toNat_natCast, Int.toNat_natCast]
        have e2 : (((a : Int) :: (order.drop (q + 1)).filter (frP ps)).take (i + 1)).drop 1 ++ ((a : Int) :: (order.drop (q + 1)).filter (frP ps)).drop (i + 1 + 1) = order.filter (frP ((ps.set a (b : Int)).set b (a : Int))) := by
          rw [List.take_succ_cons, List.drop_succ_cons, List.drop_zero, List.drop_succ_cons, erase_at hnd hb]
          have e3 : ((a : Int) :: (order.drop (q + 1)).filter (frP ps)).filter (fun y => decide (y ≠ (a : Int)) && decide (y ≠ (b : Int))) = ((order.drop (q + 1)).filter (frP ps)).filter (fun y => decide (y ≠ (b : Int))) := by
            rw [List.filter_cons]
            simp only [ne_eq, not_true_eq_false, decide_false, Bool.false_and, Bool.false_eq_true, if_false]
            refine List.filter_congr fun y hy => ?_
            have : y ≠ (a : Int) := fun e => hnin (e ▸ (List.mem_filter.1 hy).1)
            simp [this]
          rw [← e3, ← hleft, List.filter_filter]
          refine List.filter_congr fun y hy => ?_
          have hyo := ho.2.2.1 y hy
          obtain ⟨y, rfl⟩ : ∃ y' : Nat, y = (y' : Int) := ⟨y.toNat, by omega⟩
          rw [frP_nat, frP_nat, getD_set3 (by omega) (by omega)]
          by_cases e1 : b = y
          · subst e1; simp
          · by_cases e2 : a = y
            · subst e2; simp [e1]
            · have h1 : ¬ (y : Int) = (a : Int) := by omega
              have h2 : ¬ (y : Int) = (b : Int) := by omega
              simp [e1, e2, h1, h2]
        rw [e2]
        refine ih _ _ hpp (by omega) (by simp [hql]) fun i hi h => ?_
        rw [getD_set3 (by omega) (by omega)] at h ⊢
        rw [getD_set3 (by omega) (by omega)]
        split
        · rfl
        · split
          · rfl
          · rename_i e1 e2; rw [if_neg e1, if_neg e2] at h; exact hqs i hi h

/-! ### The least of some numbers -/
def leastS (f : List Int → Int) (best : Int) (p : List Int) : Int := if best < 0 ∨ f p < best then f p else best
def leastF (f : List Int → Int) (l : List (List Int)) : Int := l.foldl (leastS f) (-1)
theorem leastF_snoc (f : List Int → Int) (l : List (List Int)) (p : List Int) : leastF f (l ++ [p]) = if leastF f l < 0 ∨ f p < leastF f l then f p else leastF f l := by
  unfold leastF
  rw [List.foldl_append]
  rfl
theorem leastF_is {f : List Int → Int} : ∀ (l : List (List Int)), (∀ p ∈ l, 0 ≤ f p) → (l = [] ∧ leastF f l = -1) ∨ ((∃ p ∈ l, f p = leastF f l) ∧ ∀ p ∈ l, leastF f l ≤ f p) := by
  intro l
  obtain ⟨m, hm⟩ : ∃ m, m = l.reverse := ⟨_, rfl⟩
  obtain rfl : l = m.reverse := by rw [hm, List.reverse_reverse]
  clear hm
  induction m with
  | nil => intro _; exact .inl ⟨rfl, rfl⟩
  | cons p m ih =>
    rw [List.reverse_cons]
    generalize m.reverse = l at *
    intro h
    have hp := h p (by simp)
    rw [leastF_snoc]
    rcases ih fun q hq => h q (by simp [hq]) with ⟨rfl, e⟩ | ⟨⟨q, hq, e⟩, hle⟩
    · rw [e]; exact .inr ⟨⟨p, by simp, by simp⟩, by simp⟩
    · have h0 : 0 ≤ leastF f l := by rw [← e]; exact h q (by simp [hq])
      by_cases hc : f p < leastF f l
      · rw [if_pos (.inr hc)]
        refine .inr ⟨⟨p, by simp, rfl⟩, fun r hr => ?_⟩
        rcases List.mem_append.1 hr with hr | hr
        · have := hle r hr; omega
        · simp at hr; rw [hr]; omega
      · rw [if_neg (by omega)]
        refine .inr ⟨⟨q, by simp [hq], e⟩, fun r hr => ?_⟩
        rcases List.mem_append.1 hr with hr | hr
        · exact hle r hr
        · simp at hr; rw [hr]; omega
theorem leastF_perm {f g : List Int → Int} {l m : List (List Int)} (hp : l.Perm m) (h : ∀ p ∈ l, 0 ≤ f p) (hfg : ∀ p ∈ l, f p = g p) : leastF f l = leastF g m := by
  have hm : ∀ p ∈ m, 0 ≤ g p := fun p hq => by rw [← hfg p (hp.mem_iff.2 hq)]; exact h p (hp.mem_iff.2 hq)
  rcases leastF_is l h with ⟨rfl, e⟩ | ⟨⟨p, hpl, e⟩, hle⟩
  · rw [e]; have : m = [] := hp.symm.eq_nil; subst this; rfl
  · rcases leastF_is m hm with ⟨rfl, e2⟩ | ⟨⟨q, hq, e2⟩, hle2⟩
    · have : l = [] := hp.eq_nil; subst this; cases hpl
    · have h1 := hle q (hp.mem_iff.2 hq)
      have h2 := hle2 p (hp.mem_iff.1 hpl)
      rw [hfg q (hp.mem_iff.2 hq)] at h1
      rw [← hfg p hpl] at h2
      omega
theorem partP_start (n : Nat) : partP n (List.replicate n (-1)) := ⟨by simp, fun i hi _ => by simp [List.getD, hi], fun i hi h => absurd (show (List.replicate n (-1 : Int)).getD i 0 < 0 by simp [List.getD, hi]) h⟩
theorem nfree_start (n : Nat) : nfree (List.replicate n (-1)) < n + 1 := by
  have := List.countP_le_length (p := fun x : Int => decide (x < 0)) (l := List.replicate n (-1))
  simp only [List.length_replicate] at this
  unfold nfree
  omega

end Go.Proofs.YtbaljgdepicigaaDoor
/-
  Plain lemmas on all orders of a list, in lexicographic order: no program.
-/
namespace Go.Proofs.YtbaljgdepicigaaDoor
set_option linter.unusedVariables false

/-- Before, of two lists of one length. -/
def lx : List Int → List Int → Bool
  | x :: a, y :: b => decide (x < y) || (decide (x = y) && lx a b)
  | [], _ => false
  | _ :: _, [] => false
theorem lx_cons {x y : Int} {a b : List Int} : lx (x :: a) (y :: b) = true ↔ x < y ∨ x = y ∧ lx a b = true := by simp [lx]
theorem lx_irr (a : List Int) : lx a a = false := by
  induction a with
  | nil => rfl
  | cons x a ih => simp [lx, ih]
theorem lx_trans : ∀ {a b c : List Int}, lx a b = true → lx b c = true → lx a c = true
  | [], _, _, h, _ => by simp [lx] at h
  | _ :: _, [], _, h, _ => by simp [lx] at h
  | _ :: _, _ :: _, [], _, h => by simp [lx] at h
  | x :: a, y :: b, z :: c, h, k => by
    rw [lx_cons] at h k ⊢
    rcases h with h | ⟨rfl, h⟩ <;> rcases k with k | ⟨rfl, k⟩
    · left; omega
    · left; omega
    · left; omega
    · right; exact ⟨rfl, lx_trans h k⟩
theorem lx_asym {a b : List Int} (h : lx a b = true) : lx b a = false := by
  cases e : lx b a with
  | false => rfl
  | true => have := lx_trans h e; rw [lx_irr] at this; cases this
theorem lx_total : ∀ {a b : List Int}, a.length = b.length → a = b ∨ lx a b = true ∨ lx b a = true
  | [], [], _ => .inl rfl
  | [], _ :: _, h => by simp at h
  | _ :: _, [], h => by simp at h
  | x :: a, y :: b, h => by
    rw [lx_cons, lx_cons]
    rcases Int.lt_trichotomy x y with e | e | e
    · exact .inr (.inl (.inl e))
    · subst e
      rcases lx_total (a := a) (b := b) (by simpa using h) with rfl | k | k
      · exact .inl rfl
      · exact .inr (.inl (.inr ⟨rfl, k⟩))
      · exact .inr (.inr (.inr ⟨rfl, k⟩))
    · exact .inr (.inr (.inl e))
def lxe (a b : List Int) : Prop := a = b ∨ lx a b = true
theorem lxe_antisymm {a b : List Int} (h : lxe a b) (k : lxe b a) : a = b := by
  rcases h with h | h
  · exact h
  · rcases k with k | k
    · exact k.symm
    · rw [lx_asym h] at k; cases k
theorem lxe_trans {a b c : List Int} (h : lxe a b) (k : lxe b c) : lxe a c := by
  rcases h with rfl | h
  · exact k
  · rcases k with rfl | k
    · exact .inr h
    · exact .inr (lx_trans h k)
theorem lx_append_same : ∀ (c a b : List Int), lx (c ++ a) (c ++ b) = lx a b
  | [], _, _ => rfl
  | x :: c, a, b => by simp [lx, lx_append_same c a b]
theorem lx_append_of : ∀ {a c : List Int} (b d : List Int), a.length = c.length → lx a c = true → lx (a ++ b) (c ++ d) = true
  | [], _, _, _, _, h => by simp [lx] at h
  | _ :: _, [], _, _, hl, _ => by simp at hl
  | x :: a, y :: c, b, d, hl, h => by
    rw [List.cons_append, List.cons_append, lx_cons]
    rcases lx_cons.1 h with h | ⟨e, h⟩
    · exact .inl h
    · exact .inr ⟨e, lx_append_of b d (by simpa using hl) h⟩
theorem lxe_append {a b c d : List Int} (hl : a.length = c.length) (h : lxe a c) (k : lxe b d) : lxe (a ++ b) (c ++ d) := by
  rcases h with rfl | h
  · rcases k with rfl | k
    · exact .inl rfl
    · exact .inr (by rw [lx_append_same]; exact k)
  · exact .inr (lx_append_of b d hl h)
/-- All orders that go on from a beginning. -/
def extL (list : List Int) : Nat → List Int → List (List Int)
  | 0, pre => [pre]
  | k + 1, pre => list.flatMap fun n => if n ∈ pre then [] else extL list k (pre ++ [n])
theorem mem_extL {list : List Int} : ∀ (k : Nat) (pre p : List Int), p ∈ extL list k pre ↔ ∃ q, p = pre ++ q ∧ q.length = k ∧ (∀ x ∈ q, x ∈ list ∧ ¬ x ∈ pre) ∧ q.Nodup := by
  intro k
  induction k with
  | zero =>
    intro pre p
    simp only [extL, List.mem_singleton]
    constructor
    · rintro rfl; exact ⟨[], by simp, rfl, by simp, by simp⟩
    · rintro ⟨q, rfl, hq, _⟩; rw [List.length_eq_zero_iff.1 hq, List.append_nil]
  | succ k ih =>
    intro pre p
    simp only [extL, List.mem_flatMap]
    constructor
    · rintro ⟨n, hn, hp⟩
      split at hp
      · cases hp
      · rename_i hnp
        obtain ⟨q, rfl, hl, hq, hnd⟩ := (ih _ _).1 hp
        refine ⟨n :: q, by simp, by simp [hl], fun x hx => ?_, List.nodup_cons.2 ⟨fun h => (hq n h).2 (by simp), hnd⟩⟩
        rcases List.mem_cons.1 hx with rfl | hx
        · exact ⟨hn, hnp⟩
        · exact ⟨(hq x hx).1, fun h => (hq x hx).2 (by simp [h])⟩
    · rintro ⟨q, rfl, hl, hq, hnd⟩
      cases q with
      | nil => simp at hl
      | cons n q =>
        have hn := hq n (by simp)
        rw [List.nodup_cons] at hnd
        refine ⟨n, hn.1, ?_⟩
        rw [if_neg hn.2]
        refine (ih _ _).2 ⟨q, by simp, by simpa using hl, fun x hx => ⟨(hq x (by simp [hx])).1, fun h => ?_⟩, hnd.2⟩
        rcases List.mem_append.1 h with h | h
        · exact (hq x (by simp [hx])).2 h
        · simp at h; exact hnd.1 (h ▸ hx)
theorem pairwise_flatMap_of {α β : Type} {R : β → β → Prop} {S : α → α → Prop} {l : List α} {f : α → List β} (hl : l.Pairwise S) (h1 : ∀ x ∈ l, (f x).Pairwise R) (h2 : ∀ x y, S x y → ∀ u ∈ f x, ∀ v ∈ f y, R u v) : (l.flatMap f).Pairwise R := by
  induction l with
  | nil => simp
  | cons x l ih =>
    rw [List.flatMap_cons, List.pairwise_append]
    rw [List.pairwise_cons] at hl
    refine ⟨h1 x (by simp), ih hl.2 (fun y hy => h1 y (by simp [hy])), fun u hu v hv => ?_⟩
    obtain ⟨y, hy, hvy⟩ := List.mem_flatMap.1 hv
    exact h2 x y (hl.1 y hy) u hu v hvy
theorem sorted_extL {list : List Int} (hs : list.Pairwise (· < ·)) : ∀ (k : Nat) (pre : List Int), (extL list k pre).Pairwise (fun a b => lx a b = true) := by
  intro k
  induction k with
  | zero => intro pre; simp [extL]
  | succ k ih =>
    intro pre
    refine pairwise_flatMap_of hs (fun n _ => ?_) (fun x y hxy u hu v hv => ?_)
    · split
      · simp
      · exact ih _
    · split at hu
      · cases hu
      · split at hv
        · cases hv
        · obtain ⟨q, rfl, _⟩ := (mem_extL _ _ _).1 hu
          obtain ⟨r, rfl, _⟩ := (mem_extL _ _ _).1 hv
          rw [List.append_assoc, List.append_assoc, lx_append_same, List.singleton_append, List.singleton_append, lx_cons]
          exact .inl hxy
theorem find_least {l : List (List Int)} (hs : l.Pairwise (fun a b => lx a b = true)) {P : List Int → Bool} {p : List Int} (h : l.find? P = some p) : P p = true ∧ p ∈ l ∧ ∀ q ∈ l, P q = true → lxe p q := by
  induction l with
  | nil => cases h
  | cons x l ih =>
    rw [List.pairwise_cons] at hs
    rw [List.find?_cons] at h
    cases hx : P x with
    | true =>
      rw [hx] at h
      obtain rfl : x = p := by simpa using h
      refine ⟨hx, by simp, fun q hq _ => ?_⟩
      rcases List.mem_cons.1 hq with rfl | hq
      · exact .inl rfl
      · exact .inr (hs.1 q hq)
    | false =>
      rw [hx] at h
      obtain ⟨h1, h2, h3⟩ := ih hs.2 h
      refine ⟨h1, by simp [h2], fun q hq hP => ?_⟩
      rcases List.mem_cons.1 hq with rfl | hq
      · rw [hx] at hP; cases hP
      · exact h3 q hq hP

end Go.Proofs.YtbaljgdepicigaaDoor
/-
  Plain lemmas on the least bracket that a player wins: no program.
-/
namespace Go.Proofs.YtbaljgdepicigaaDoor
set_option linter.unusedVariables false

/-! ### A bracket is won by the better one of its halves' winners -/
theorem nextR_append (xs : List Int) : ∀ (p q : List Int), p.length % 2 = 0 → nextR xs (p ++ q) = nextR xs p ++ nextR xs q
  | [], q, _ => rfl
  | [_], q, h => by simp at h
  | a :: b :: r, q, h => by
    simp only [List.cons_append, nextR]
    rw [nextR_append xs r q (by simp at h; omega)]
theorem winner_one (xs : List Int) (a : Int) : winner xs [a] = a := by rw [winner_end (by simp)]; rfl
theorem winner_append (xs : List Int) : ∀ (k : Nat) (p q : List Int), p.length = pw2 k → q.length = pw2 k → winner xs (p ++ q) = game xs (winner xs p) (winner xs q) := by
  intro k
  induction k with
  | zero =>
    intro p q hp hq
    obtain ⟨a, rfl⟩ := List.length_eq_one_iff.1 (show p.length = 1 from hp)
    obtain ⟨b, rfl⟩ := List.length_eq_one_iff.1 (show q.length = 1 from hq)
    rw [winner_one, winner_one, winner_step (by simp)]
    exact winner_one xs _
  | succ k ih =>
    intro p q hp hq
    have h1 := pw2_pos k
    have h2 := pw2_eq k
    rw [winner_step (br := p ++ q) (by rw [List.length_append]; omega), winner_step (br := p) (by omega), winner_step (br := q) (by omega), nextR_append xs p q (by omega)]
    exact ih _ _ (by rw [nextR_len]; omega) (by rw [nextR_len]; omega)

theorem winner_mem (xs : List Int) : ∀ {p : List Int}, 0 < p.length → winner xs p ∈ p := by
  have key : ∀ (n : Nat) (p : List Int), p.length ≤ n → 0 < p.length → winner xs p ∈ p := by
    intro n
    induction n with
    | zero => intro p h h0; omega
    | succ n ih =>
      intro p h h0
      by_cases h1 : 1 < p.length
      · rw [winner_step h1]
        have hl := nextR_len xs p
        exact nextR_mem xs p _ (ih _ (by omega) (by omega))
      · obtain ⟨a, rfl⟩ := List.length_eq_one_iff.1 (show p.length = 1 by omega)
        rw [winner_one]; simp
  intro p h
  exact key _ _ (Nat.le_refl _) h

/-! ### The least one of some lists -/
def lessL (a b : List Int) : List Int := if a = [] then b else if lx b a = true then b else a
def minL (l : List (List Int)) : List Int := l.foldl lessL []
theorem minL_snoc (l : List (List Int)) (c : List Int) : minL (l ++ [c]) = lessL (minL l) c := by simp [minL]
theorem lessL_spec {r y : List Int} (hr : r ≠ []) (hl : r.length = y.length) : (lessL r y = r ∨ lessL r y = y) ∧ lxe (lessL r y) r ∧ lxe (lessL r y) y := by
  unfold lessL
  rw [if_neg hr]
  split
  · rename_i h; exact ⟨.inr rfl, .inr h, .inl rfl⟩
  · rename_i h
    refine ⟨.inl rfl, .inl rfl, ?_⟩
    rcases lx_total hl with e | e | e
    · exact .inl e
    · exact .inr e
    · exact absurd e h
theorem foldL_spec {m : Nat} (hm : 0 < m) : ∀ (l : List (List Int)) (r : List Int), r.length = m → (∀ c ∈ l, c.length = m) → (l.foldl lessL r = r ∨ l.foldl lessL r ∈ l) ∧ lxe (l.foldl lessL r) r ∧ ∀ c ∈ l, lxe (l.foldl lessL r) c := by
  intro l
  induction l with
  | nil => intro r _ _; exact ⟨.inl rfl, .inl rfl, by simp⟩
  | cons y l ih =>
    intro r hr hl
    have hy := hl y (by simp)
    obtain ⟨h1, h2, h3⟩ := lessL_spec (r := r) (y := y) (by rintro rfl; simp at hr; omega) (by omega)
    obtain ⟨k1, k2, k3⟩ := ih (lessL r y) (by rcases h1 with e | e <;> rw [e] <;> assumption) (fun c hc => hl c (by simp [hc]))
    rw [List.foldl_cons]
    refine ⟨?_, lxe_trans k2 h2, fun c hc => ?_⟩
    · rcases k1 with e | e
      · rw [e]
        rcases h1 with e1 | e1
        · exact .inl e1
        · exact .inr (by rw [e1]; simp)
      · exact .inr (by simp [e])
    · rcases List.mem_cons.1 hc with rfl | hc
      · exact lxe_trans k2 h3
      · exact k3 c hc
theorem minL_spec {m : Nat} (hm : 0 < m) {l : List (List Int)} (hl : ∀ c ∈ l, c.length = m) (h0 : l ≠ []) : minL l ∈ l ∧ ∀ c ∈ l, lxe (minL l) c := by
  cases l with
  | nil => exact absurd rfl h0
  | cons x l =>
    have e : minL (x :: l) = l.foldl lessL x := by simp [minL, lessL]
    obtain ⟨h1, h2, h3⟩ := foldL_spec hm l x (hl x (by simp)) (fun c hc => hl c (by simp [hc]))
    rw [e]
    refine ⟨?_, fun c hc => ?_⟩
    · rcases h1 with h | h
      · rw [h]; simp
      · simp [h]
    · rcases List.mem_cons.1 hc with rfl | hc
      · exact h2
      · exact h3 c hc
theorem minL_len {m : Nat} {l : List (List Int)} (hl : ∀ c ∈ l, c.length = m) : (minL l).length ≤ m := by
  rcases Nat.eq_zero_or_pos m with rfl | hm
  · cases l with
    | nil => simp [minL]
    | cons x l =>
      have key : ∀ (l : List (List Int)) (r : List Int), r.length = 0 → (∀ c ∈ l, c.length = 0) → (l.foldl lessL r).length = 0 := by
        intro l
        induction l with
        | nil => intro r h _; exact h
        | cons y l ih => intro r h hl; exact ih _ (by unfold lessL; split; exact hl y (by simp); split; exact hl y (by simp); exact h) (fun c hc => hl c (by simp [hc]))
      exact Nat.le_of_eq (key (x :: l) [] rfl hl)
  · by_cases h0 : l = []
    · subst h0; simp [minL]
    · rw [hl _ (minL_spec hm hl h0).1]; exact Nat.le_refl _

/-! ### The least bracket -/
def canA (xs : List Int) (W : Nat → Nat) (L : Int → Nat → List Int) (a : Int) (set h : Nat) : List (List Int) :=
  if (W h).testBit a.toNat = true then (mems (W (set - h) &&& rowN xs a)).map fun b => L a h ++ L b (set - h) else []
def canB (xs : List Int) (W : Nat → Nat) (L : Int → Nat → List Int) (a : Int) (set h : Nat) : List (List Int) :=
  if (W (set - h)).testBit a.toNat = true then (mems (W h &&& rowN xs a)).map fun b => L b h ++ L a (set - h) else []
def cans (xs : List Int) (W : Nat → Nat) (L : Int → Nat → List Int) (a : Int) (set sz : Nat) : Nat → List (List Int)
  | 0 => []
  | h + 1 => if 1 ≤ h ∧ h &&& set = h ∧ pc h = sz then cans xs W L a set sz h ++ canA xs W L a set h ++ canB xs W L a set h else cans xs W L a set sz h
def least (xs : List Int) : Nat → Int → Nat → List Int
  | 0, a, _ => [a]
  | k + 1, a, set => minL (cans xs (win xs k) (least xs k) a set (pw2 k) set)
theorem cans_yes {xs : List Int} {W : Nat → Nat} {L : Int → Nat → List Int} {a : Int} {set sz h : Nat} (h1 : 1 ≤ h ∧ h &&& set = h ∧ pc h = sz) : cans xs W L a set sz (h + 1) = cans xs W L a set sz h ++ canA xs W L a set h ++ canB xs W L a set h := by
  simp only [cans]; rw [if_pos h1]
theorem cans_no {xs : List Int} {W : Nat → Nat} {L : Int → Nat → List Int} {a : Int} {set sz h : Nat} (h1 : ¬ (1 ≤ h ∧ h &&& set = h ∧ pc h = sz)) : cans xs W L a set sz (h + 1) = cans xs W L a set sz h := by
  simp only [cans]; rw [if_neg h1]
theorem mem_cans {xs : List Int} {W : Nat → Nat} {L : Int → Nat → List Int} {a : Int} {set sz : Nat} {c : List Int} : ∀ h, c ∈ cans xs W L a set sz h ↔ ∃ g, g < h ∧ (1 ≤ g ∧ g &&& set = g ∧ pc g = sz) ∧ (c ∈ canA xs W L a set g ∨ c ∈ canB xs W L a set g) := by
  intro h
  induction h with
  | zero => simp [cans]
  | succ h ih =>
    by_cases hv : 1 ≤ h ∧ h &&& set = h ∧ pc h = sz
    · rw [cans_yes hv, List.mem_append, List.mem_append, ih]
      constructor
      · rintro ((⟨g, h1, h2, h3⟩ | h3) | h3)
        · exact ⟨g, by omega, h2, h3⟩
        · exact ⟨h, by omega, hv, .inl h3⟩
        · exact ⟨h, by omega, hv, .inr h3⟩
      · rintro ⟨g, h1, h2, h3⟩
        by_cases e : g = h
        · subst e; rcases h3 with h3 | h3
          · exact .inl (.inr h3)
          · exact .inr h3
        · exact .inl (.inl ⟨g, by omega, h2, h3⟩)
    · rw [cans_no hv, ih]
      constructor
      · rintro ⟨g, h1, h2, h3⟩; exact ⟨g, by omega, h2, h3⟩
      · rintro ⟨g, h1, h2, h3⟩
        refine ⟨g, ?_, h2, h3⟩
        have : g ≠ h := by rintro rfl; exact hv h2
        omega
theorem mem_canA {xs : List Int} {W : Nat → Nat} {L : Int → Nat → List Int} {a : Int} {set h : Nat} {c : List Int} : c ∈ canA xs W L a set h ↔ (W h).testBit a.toNat = true ∧ ∃ b : Nat, b < 8 ∧ (W (set - h)).testBit b = true ∧ (rowN xs a).testBit b = true ∧ c = L a h ++ L (b : Int) (set - h) := by
  unfold canA
  split
  · rename_i h1
    rw [List.mem_map]
    constructor
    · rintro ⟨x, hx, rfl⟩
      obtain ⟨b, hb, hbt, rfl⟩ := mem_mems.1 hx
      rw [Nat.testBit_and, Bool.and_eq_true] at hbt
      exact ⟨h1, b, hb, hbt.1, hbt.2, rfl⟩
    · rintro ⟨_, b, hb, h2, h3, rfl⟩
      exact ⟨_, mem_mems.2 ⟨b, hb, by rw [Nat.testBit_and, h2, h3]; rfl, rfl⟩, rfl⟩
  · rename_i h1
    constructor
    · intro h; cases h
    · rintro ⟨h, _⟩; exact absurd h h1
theorem mem_canB {xs : List Int} {W : Nat → Nat} {L : Int → Nat → List Int} {a : Int} {set h : Nat} {c : List Int} : c ∈ canB xs W L a set h ↔ (W (set - h)).testBit a.toNat = true ∧ ∃ b : Nat, b < 8 ∧ (W h).testBit b = true ∧ (rowN xs a).testBit b = true ∧ c = L (b : Int) h ++ L a (set - h) := by
  unfold canB
  split
  · rename_i h1
    rw [List.mem_map]
    constructor
    · rintro ⟨x, hx, rfl⟩
      obtain ⟨b, hb, hbt, rfl⟩ := mem_mems.1 hx
      rw [Nat.testBit_and, Bool.and_eq_true] at hbt
      exact ⟨h1, b, hb, hbt.1, hbt.2, rfl⟩
    · rintro ⟨_, b, hb, h2, h3, rfl⟩
      exact ⟨_, mem_mems.2 ⟨b, hb, by rw [Nat.testBit_and, h2, h3]; rfl, rfl⟩, rfl⟩
  · rename_i h1
    constructor
    · intro h; cases h
    · rintro ⟨h, _⟩; exact absurd h h1
theorem not_bits : ∀ h : Nat, h < 256 → ∀ i : Nat, i < 8 → (255 - h).testBit i = !h.testBit i := by decide +kernel
theorem half_bits {set h : Nat} (hs : set < 256) (h2 : h &&& set = h) : h < 256 ∧ h ≤ set ∧ (∀ i, (set - h).testBit i = (set.testBit i && !h.testBit i)) ∧ pc (set - h) + pc h = pc set := by
  have h3 : h ≤ set := by rw [← h2]; exact Nat.and_le_right
  have h4 := pc_sub set hs h (by omega) h2
  refine ⟨by omega, h3, fun i => ?_, h4.1⟩
  rw [sub_bits set hs h (by omega) h2, Nat.testBit_and]
  rcases Nat.lt_or_ge i 8 with hi | hi
  · rw [not_bits h (by omega) i hi]
  · rw [Nat.testBit_lt_two_pow (x := set) (Nat.lt_of_lt_of_le (show set < 2 ^ 8 by omega) (Nat.pow_le_pow_right (by omega) hi))]; rfl
theorem bit_lt8 {v a : Nat} (hv : v < 256) (h : v.testBit a = true) : a < 8 := by
  rcases Nat.lt_or_ge a 8 with h1 | h1
  · exact h1
  · rw [Nat.testBit_lt_two_pow (Nat.lt_of_lt_of_le (show v < 2 ^ 8 by omega) (Nat.pow_le_pow_right (by omega) h1))] at h; cases h
theorem wTo_bits {xs : List Int} {W : Nat → Nat} {set sz : Nat} {i : Nat} : ∀ h, (wTo xs W set sz h).testBit i = true ↔ ∃ g, g < h ∧ (1 ≤ g ∧ g &&& set = g ∧ pc g = sz) ∧ ∃ x ∈ mems (W g), x.toNat = i ∧ ¬ rowN xs x &&& W (set - g) = 0 := by
  intro h
  induction h with
  | zero => simp [wTo]
  | succ h ih =>
    by_cases hv : 1 ≤ h ∧ h &&& set = h ∧ pc h = sz
    · rw [wTo_yes hv.1 hv.2.1 hv.2.2, addW_bits, Bool.or_eq_true, ih, List.any_eq_true]
      constructor
      · rintro (⟨g, h1, h2, h3⟩ | ⟨x, h1, h2⟩)
        · exact ⟨g, by omega, h2, h3⟩
        · exact ⟨h, by omega, hv, x, h1, by simpa using h2⟩
      · rintro ⟨g, h1, h2, x, h3, h4⟩
        by_cases e : g = h
        · subst e; exact .inr ⟨x, h3, by simpa using h4⟩
        · exact .inl ⟨g, by omega, h2, x, h3, h4⟩
    · rw [wTo_no hv, ih]
      constructor
      · rintro ⟨g, h1, h2, h3⟩; exact ⟨g, by omega, h2, h3⟩
      · rintro ⟨g, h1, h2, h3⟩
        refine ⟨g, ?_, h2, h3⟩
        have : g ≠ h := by rintro rfl; exact hv h2
        omega
theorem and_ne {u v : Nat} (hv : v < 256) : ¬ u &&& v = 0 ↔ ∃ b, b < 8 ∧ u.testBit b = true ∧ v.testBit b = true := by
  constructor
  · intro h
    obtain ⟨b, hb⟩ : ∃ b, (u &&& v).testBit b = true := by
      apply Classical.byContradiction
      intro hn
      apply h
      apply Nat.eq_of_testBit_eq
      intro i
      rw [Nat.zero_testBit]
      cases e : (u &&& v).testBit i with
      | false => rfl
      | true => exact absurd ⟨i, e⟩ hn
    rw [Nat.testBit_and, Bool.and_eq_true] at hb
    exact ⟨b, bit_lt8 hv hb.2, hb.1, hb.2⟩
  · rintro ⟨b, _, h1, h2⟩ h
    have := congrArg (fun z => z.testBit b) h
    simp only [Nat.testBit_and, h1, h2, Nat.zero_testBit] at this
    cases this
def hal (k set g : Nat) : Prop := 1 ≤ g ∧ g &&& set = g ∧ pc g = pw2 k
theorem hal_lt {k set g : Nat} (hs : set < 256) (hp : pc set = pw2 (k + 1)) (h : hal k set g) : g < set ∧ hal k set (set - g) ∧ set - (set - g) = g := by
  obtain ⟨h1, h2, h3⟩ := h
  have hb := half_bits hs h2
  have hk := pw2_pos k
  have hk2 := pw2_eq k
  have h0 : 1 ≤ set - g := by
    rcases Nat.eq_zero_or_pos (set - g) with e | e
    · have h5 := hb.2.2.2; rw [e, show pc 0 = 0 from rfl] at h5; omega
    · exact e
  refine ⟨by omega, ⟨h0, ?_, by omega⟩, by omega⟩
  apply Nat.eq_of_testBit_eq
  intro i
  rw [Nat.testBit_and, hb.2.2.1]
  cases set.testBit i <;> simp
theorem win_bit {xs : List Int} {k set a : Nat} (hs : set < 256) (hp : pc set = pw2 (k + 1)) : (win xs (k + 1) set).testBit a = true ↔ ∃ g, hal k set g ∧ (win xs k g).testBit a = true ∧ ∃ b, b < 8 ∧ (rowN xs a).testBit b = true ∧ (win xs k (set - g)).testBit b = true := by
  show (wTo xs (win xs k) set (pw2 k) set).testBit a = true ↔ _
  rw [wTo_bits]
  constructor
  · rintro ⟨g, h1, h2, x, h3, h4, h5⟩
    have hh := hal_lt hs hp (show hal k set g from h2)
    obtain ⟨b, hb, hbt, rfl⟩ := mem_mems.1 h3
    obtain rfl : b = a := by simpa using h4
    exact ⟨g, h2, hbt, (and_ne (win_lt xs (by omega) hh.2.1.2.2)).1 h5⟩
  · rintro ⟨g, h2, h3, h4⟩
    have hh := hal_lt hs hp h2
    exact ⟨g, hh.1, h2, (a : Int), mem_mems.2 ⟨a, bit_lt8 (win_lt xs (by omega) h2.2.2) h3, h3, rfl⟩, by simp, (and_ne (win_lt xs (by omega) hh.2.1.2.2)).2 h4⟩
/-- An order of the players of a set. -/
def Arr (k set : Nat) (p : List Int) : Prop := p.length = pw2 k ∧ p.Nodup ∧ ∀ x ∈ p, x ∈ mems set
theorem mems_disj {set g : Nat} (hs : set < 256) (h2 : g &&& set = g) {x : Int} (h : x ∈ mems g) : ¬ x ∈ mems (set - g) := by
  intro h'
  obtain ⟨b, hb, hbt, rfl⟩ := mem_mems.1 h
  obtain ⟨c, hc, hct, e⟩ := mem_mems.1 h'
  obtain rfl : b = c := by omega
  rw [(half_bits hs h2).2.2.1, hbt] at hct
  simp at hct
theorem mems_sub {set g : Nat} (h2 : g &&& set = g) {x : Int} (h : x ∈ mems g) : x ∈ mems set := by
  obtain ⟨b, hb, hbt, rfl⟩ := mem_mems.1 h
  exact mem_mems.2 ⟨b, hb, subB_and h2 b hbt, rfl⟩
theorem arr_join {k set g : Nat} (hs : set < 256) (hp : pc set = pw2 (k + 1)) (h : hal k set g) {p q : List Int} (hp1 : Arr k g p) (hq : Arr k (set - g) q) : Arr (k + 1) set (p ++ q) := by
  have hh := hal_lt hs hp h
  refine ⟨by rw [List.length_append, hp1.1, hq.1, pw2_eq]; omega, ?_, fun x hx => ?_⟩
  · rw [List.nodup_append]
    refine ⟨hp1.2.1, hq.2.1, fun x hx y hy e => ?_⟩
    subst e
    exact mems_disj hs h.2.1 (hp1.2.2 x hx) (hq.2.2 x hy)
  · rcases List.mem_append.1 hx with hx | hx
    · exact mems_sub h.2.1 (hp1.2.2 x hx)
    · exact mems_sub hh.2.1.2.1 (hq.2.2 x hx)
theorem mems_bd {m : Nat} {x : Int} (h : x ∈ mems m) : 0 ≤ x ∧ x < 8 := by obtain ⟨b, hb, _, rfl⟩ := mem_mems.1 h; omega
theorem arr_split {k set : Nat} (hs : set < 256) (hp : pc set = pw2 (k + 1)) {p : List Int} (h : Arr (k + 1) set p) : ∃ g p1 p2, hal k set g ∧ p = p1 ++ p2 ∧ Arr k g p1 ∧ Arr k (set - g) p2 := by
  obtain ⟨hl, hn, hm⟩ := h
  have hk := pw2_pos k
  have hk2 := pw2_eq k
  obtain ⟨p1, p2, rfl, hl1⟩ : ∃ p1 p2, p = p1 ++ p2 ∧ p1.length = pw2 k := ⟨p.take (pw2 k), p.drop (pw2 k), (List.take_append_drop _ _).symm, by rw [List.length_take]; omega⟩
  rw [List.length_append] at hl
  rw [List.nodup_append] at hn
  have hb1 : ∀ x ∈ p1, 0 ≤ x ∧ x < 8 := fun x hx => mems_bd (hm x (by simp [hx]))
  obtain ⟨ho, hob⟩ := orN_bits p1 hb1
  have hpc := (orN_pc p1 hb1).2.2 hn.1
  have hg : ∀ i, (orN p1).testBit i = true → set.testBit i = true := fun i hi => by
    have h8 := bit_lt8 ho hi
    rw [hob i h8] at hi
    obtain ⟨b, _, hbt, e⟩ := mem_mems.1 (hm (i : Int) (by simp; exact .inl (by simpa using hi)))
    obtain rfl : i = b := by omega
    exact hbt
  have hand : orN p1 &&& set = orN p1 := by
    apply Nat.eq_of_testBit_eq
    intro i
    rw [Nat.testBit_and]
    cases e : (orN p1).testBit i with
    | false => rfl
    | true => rw [hg i e]; rfl
  have hhal : hal k set (orN p1) := by
    refine ⟨?_, hand, by omega⟩
    rcases Nat.eq_zero_or_pos (orN p1) with e | e
    · rw [e, show pc 0 = 0 from rfl] at hpc; omega
    · exact e
  refine ⟨orN p1, p1, p2, hhal, rfl, ⟨hl1, hn.1, fun x hx => ?_⟩, ⟨by omega, hn.2.1, fun x hx => ?_⟩⟩
  · have := hb1 x hx
    refine mem_mems.2 ⟨x.toNat, by omega, ?_, by omega⟩
    rw [hob _ (by omega), Int.toNat_of_nonneg this.1]
    simpa using hx
  · obtain ⟨b, hb, hbt, rfl⟩ := mem_mems.1 (hm x (by simp [hx]))
    refine mem_mems.2 ⟨b, hb, ?_, rfl⟩
    rw [(half_bits hs hand).2.2.1, hbt, hob b hb]
    have : ¬ (b : Int) ∈ p1 := fun h1 => hn.2.2 _ h1 _ hx rfl
    simpa using this
theorem bit_ltn {v a n : Nat} (hv : v < 2 ^ n) (h : v.testBit a = true) : a < n := by
  rcases Nat.lt_or_ge a n with h1 | h1
  · exact h1
  · rw [Nat.testBit_lt_two_pow (Nat.lt_of_lt_of_le hv (Nat.pow_le_pow_right (by omega) h1))] at h; cases h
theorem row_bts {s : Int} {xs : List Int} (ht : tourOk s xs) {a b : Nat} (ha : a < xs.length) : (rowN xs (a : Int)).testBit b = true ↔ bts xs a b := by
  obtain ⟨m, h1, h2⟩ := row_nat ht ha
  rw [bts_nat h1]
  have : rowN xs (a : Int) = m := by simp [rowN, List.getD, h1]
  rw [this]
/-- The least bracket of a set that a player wins. -/
theorem least_ok {s : Int} {xs : List Int} (ht : tourOk s xs) : ∀ (k set : Nat), set < 2 ^ xs.length → pc set = pw2 k → ∀ a : Nat,
    ((win xs k set).testBit a = true → Arr k set (least xs k (a : Int) set) ∧ winner xs (least xs k (a : Int) set) = (a : Int)) ∧
    ∀ p, Arr k set p → winner xs p = (a : Int) → (win xs k set).testBit a = true ∧ lxe (least xs k (a : Int) set) p := by
  have hn8 := tourOk_size ht
  have h256 : 2 ^ xs.length ≤ 2 ^ 8 := Nat.pow_le_pow_right (by omega) hn8.2.1
  intro k
  induction k with
  | zero =>
    intro set hs hp a
    refine ⟨fun h => ?_, fun p h1 h2 => ?_⟩
    · replace h : set.testBit a = true := h
      exact ⟨⟨rfl, by simp [least], fun x hx => by simp [least] at hx; exact mem_mems.2 ⟨a, bit_lt8 (v := set) (by omega) h, h, hx⟩⟩, winner_one _ _⟩
    · obtain ⟨x, rfl⟩ := List.length_eq_one_iff.1 (show p.length = 1 from h1.1)
      rw [winner_one] at h2
      subst h2
      obtain ⟨b, hb, hbt, e⟩ := mem_mems.1 (h1.2.2 (a : Int) (by simp))
      obtain rfl : a = b := by omega
      exact ⟨hbt, .inl rfl⟩
  | succ k ih =>
    intro set hs hp a
    have hs2 : set < 256 := by omega
    have hwl : ∀ g, hal k set g → g < 2 ^ xs.length := fun g hg => by have := (hal_lt hs2 hp hg).1; omega
    have hwb : ∀ g, hal k set g → ∀ b, (win xs k g).testBit b = true → b < xs.length := fun g hg b hb =>
      bit_ltn (hwl g hg) (win_sub xs k g (by have := hwl g hg; omega) hg.2.2 b hb)
    -- every candidate is won by a
    have hc1 : ∀ c ∈ cans xs (win xs k) (least xs k) (a : Int) set (pw2 k) set, Arr (k + 1) set c ∧ winner xs c = (a : Int) ∧ (win xs (k + 1) set).testBit a = true := by
      intro c hc
      obtain ⟨g, hg, hv, h3⟩ := (mem_cans _).1 hc
      have hh := hal_lt hs2 hp hv
      rcases h3 with h3 | h3
      · obtain ⟨h4, b, hb, h5, h6, rfl⟩ := mem_canA.1 h3
        rw [Int.toNat_natCast] at h4
        have i1 := (ih g (hwl g hv) hv.2.2 a).1 h4
        have i2 := (ih (set - g) (hwl _ hh.2.1) hh.2.1.2.2 b).1 h5
        have ha := hwb g hv a h4
        have hbn := hwb _ hh.2.1 b h5
        refine ⟨arr_join hs2 hp hv i1.1 i2.1, ?_, (win_bit hs2 hp).2 ⟨g, hv, h4, b, hb, h6, h5⟩⟩
        rw [winner_append xs k _ _ i1.1.1 i2.1.1, i1.2, i2.2]
        have hab := (row_bts ht ha).1 h6
        have hne : a ≠ b := by rintro rfl; exact bts_self ht ha hab
        unfold game
        rw [if_neg]
        rintro (h | ⟨_, h⟩)
        · omega
        · rw [Int.toNat_natCast, Int.toNat_natCast] at h
          exact (bts_anti ht ha hbn hne).1 hab h
      · obtain ⟨h4, b, hb, h5, h6, rfl⟩ := mem_canB.1 h3
        rw [Int.toNat_natCast] at h4
        have i1 := (ih g (hwl g hv) hv.2.2 b).1 h5
        have i2 := (ih (set - g) (hwl _ hh.2.1) hh.2.1.2.2 a).1 h4
        have ha := hwb _ hh.2.1 a h4
        refine ⟨arr_join hs2 hp hv i1.1 i2.1, ?_, (win_bit hs2 hp).2 ⟨set - g, hh.2.1, h4, b, hb, h6, by rw [hh.2.2]; exact h5⟩⟩
        rw [winner_append xs k _ _ i1.1.1 i2.1.1, i1.2, i2.2]
        have hab := (row_bts ht ha).1 h6
        unfold game
        rw [if_pos]
        exact .inr ⟨by omega, by rw [Int.toNat_natCast, Int.toNat_natCast]; exact hab⟩
    -- every bracket that a wins is no less than a candidate
    have hc2 : ∀ p, Arr (k + 1) set p → winner xs p = (a : Int) → ∃ c ∈ cans xs (win xs k) (least xs k) (a : Int) set (pw2 k) set, lxe c p := by
      intro p h1 h2
      obtain ⟨g, p1, p2, hv, rfl, a1, a2⟩ := arr_split hs2 hp h1
      have hh := hal_lt hs2 hp hv
      have hx : ∃ x : Nat, winner xs p1 = (x : Int) := by
        have : winner xs p1 ∈ p1 := winner_mem xs (by have := a1.1; have := pw2_pos k; omega)
        obtain ⟨b, _, _, e⟩ := mem_mems.1 (a1.2.2 _ this)
        exact ⟨b, e⟩
      have hy : ∃ x : Nat, winner xs p2 = (x : Int) := by
        have : winner xs p2 ∈ p2 := winner_mem xs (by have := a2.1; have := pw2_pos k; omega)
        obtain ⟨b, _, _, e⟩ := mem_mems.1 (a2.2.2 _ this)
        exact ⟨b, e⟩
      obtain ⟨x, hx⟩ := hx
      obtain ⟨y, hy⟩ := hy
      obtain ⟨b1, l1⟩ := (ih g (hwl g hv) hv.2.2 x).2 p1 a1 hx
      obtain ⟨b2, l2⟩ := (ih (set - g) (hwl _ hh.2.1) hh.2.1.2.2 y).2 p2 a2 hy
      have i1 := (ih g (hwl g hv) hv.2.2 x).1 b1
      have hxn := hwb g hv x b1
      have hyn := hwb _ hh.2.1 y b2
      have hx8 : x < 8 := by omega
      have hy8 : y < 8 := by omega
      have hne : x ≠ y := by
        rintro rfl
        have m1 := win_sub xs k g (by have := hwl g hv; omega) hv.2.2 x b1
        have m2 := win_sub xs k (set - g) (by omega) hh.2.1.2.2 x b2
        rw [(half_bits hs2 hv.2.1).2.2.1, m1] at m2
        simp at m2
      refine ⟨least xs k (x : Int) g ++ least xs k (y : Int) (set - g), ?_, lxe_append (by rw [i1.1.1, a1.1]) l1 l2⟩
      rw [mem_cans]
      refine ⟨g, hh.1, hv, ?_⟩
      rw [winner_append xs k _ _ a1.1 a2.1, hx, hy] at h2
      unfold game at h2
      by_cases hb : bts xs y x
      · rw [if_pos (.inr ⟨by omega, by simpa using hb⟩)] at h2
        obtain rfl : y = a := by omega
        exact .inr (mem_canB.2 ⟨by simpa using b2, x, hx8, b1, (row_bts ht hyn).2 hb, rfl⟩)
      · rw [if_neg (by rintro (h | ⟨_, h⟩); omega; exact hb (by simpa using h))] at h2
        obtain rfl : x = a := by omega
        exact .inl (mem_canA.2 ⟨by simpa using b1, y, hy8, b2, (row_bts ht hxn).2 ((bts_anti ht hxn hyn hne).2 hb), rfl⟩)
    have hlen : ∀ c ∈ cans xs (win xs k) (least xs k) (a : Int) set (pw2 k) set, c.length = pw2 (k + 1) := fun c hc => (hc1 c hc).1.1
    refine ⟨fun h => ?_, fun p h1 h2 => ?_⟩
    · obtain ⟨g, hv, h4, b, hb, h6, h5⟩ := (win_bit hs2 hp).1 h
      have hne : cans xs (win xs k) (least xs k) (a : Int) set (pw2 k) set ≠ [] :=
        List.ne_nil_of_mem ((mem_cans _).2 ⟨g, (hal_lt hs2 hp hv).1, hv, .inl (mem_canA.2 ⟨by simpa using h4, b, hb, h5, h6, rfl⟩)⟩)
      have hm := hc1 _ (minL_spec (pw2_pos _) hlen hne).1
      exact ⟨hm.1, hm.2.1⟩
    · obtain ⟨c, hc, hcp⟩ := hc2 p h1 h2
      exact ⟨(hc1 c hc).2.2, lxe_trans ((minL_spec (pw2_pos _) hlen (List.ne_nil_of_mem hc)).2 c hc) hcp⟩
theorem least_len (xs : List Int) : ∀ (k : Nat) (a : Int) (set : Nat), (least xs k a set).length ≤ pw2 k := by
  intro k
  induction k with
  | zero => intro a set; exact Nat.le_refl _
  | succ k ih =>
    intro a set
    show (minL _).length ≤ _
    have hle : ∀ c ∈ cans xs (win xs k) (least xs k) a set (pw2 k) set, c.length ≤ pw2 (k + 1) := fun c hc => by
      obtain ⟨g, _, _, h3⟩ := (mem_cans _).1 hc
      rcases h3 with h3 | h3
      · obtain ⟨_, b, _, _, _, rfl⟩ := mem_canA.1 h3
        have i1 := ih a g; have i2 := ih (b : Int) (set - g)
        rw [List.length_append, pw2_eq]; omega
      · obtain ⟨_, b, _, _, _, rfl⟩ := mem_canB.1 h3
        have i1 := ih (b : Int) g; have i2 := ih a (set - g)
        rw [List.length_append, pw2_eq]; omega
    have key : ∀ (l : List (List Int)) (r : List Int), r.length ≤ pw2 (k + 1) → (∀ c ∈ l, c.length ≤ pw2 (k + 1)) → (l.foldl lessL r).length ≤ pw2 (k + 1) := by
      intro l
      induction l with
      | nil => intro r h _; exact h
      | cons y l ihl =>
        intro r h hl
        refine ihl _ ?_ (fun c hc => hl c (by simp [hc]))
        have := hl y (by simp)
        unfold lessL
        split
        · exact this
        · split
          · exact this
          · exact h
    exact key _ [] (by simp) hle

/-! ### The law's value -/
theorem mems_fullU {s : Int} {x : Int} (h0 : 0 ≤ s) (h8 : s ≤ 8) : x ∈ mems (fullS s) ↔ x ∈ upto s.toNat := by
  rw [mem_mems, upto_mem]
  unfold fullS
  simp only [Nat.testBit_two_pow_sub_one, decide_eq_true_eq]
  constructor
  · rintro ⟨a, h1, h2, rfl⟩; omega
  · intro h; exact ⟨x.toNat, by omega, by omega, by omega⟩
/-- The first bracket, in lexicographic order, that a player wins. -/
def firstB (xs : List Int) (a : Int) : Option (List Int) := (extL (upto xs.length) xs.length []).find? fun p => decide (winner xs p = a)
theorem arr_full {s : Int} {xs : List Int} (hf : fixedOk s xs) {p : List Int} : p ∈ extL (upto xs.length) xs.length [] ↔ Arr (lg s) (fullS s) p := by
  have h1 := tourOk_size hf.1
  have h2 := brk_pw2 hf.2
  have e : s.toNat = xs.length := by omega
  rw [mem_extL]
  constructor
  · rintro ⟨q, rfl, h3, h4, h5⟩
    refine ⟨by omega, by simpa using h5, fun x hx => ?_⟩
    rw [mems_fullU (by omega) (by omega), e]
    exact (h4 x (by simpa using hx)).1
  · rintro ⟨h3, h4, h5⟩
    refine ⟨p, rfl, by omega, fun x hx => ⟨?_, by simp⟩, h4⟩
    have := h5 x hx
    rwa [mems_fullU (by omega) (by omega), e] at this
theorem upto_sorted (n : Nat) : (upto n).Pairwise (· < ·) := by
  unfold upto
  rw [List.pairwise_map]
  exact (List.pairwise_lt_range (n := n)).imp fun h => by omega
theorem first_least {s : Int} {xs : List Int} {a : Int} (hf : fixedOk s xs) (ha : 0 ≤ a ∧ a ≤ s - 1) :
    firstB xs a = if inSet (possW s xs) a then some (least xs (lg s) a (fullS s)) else none := by
  have h1 := tourOk_size hf.1
  have h2 := fullS_ok (s := s) (by omega) (by omega)
  have h3 := brk_pw2 hf.2
  have e : s.toNat = xs.length := by omega
  have hlo := least_ok hf.1 (lg s) (fullS s) (by rw [← e]; exact h2.2.2) (by rw [h2.2.1]; omega) a.toNat
  rw [Int.toNat_of_nonneg ha.1] at hlo
  have hin : inSet (possW s xs) a ↔ (win xs (lg s) (fullS s)).testBit a.toNat = true := by unfold inSet possW; rw [if_pos hf, Int.toNat_natCast]
  cases hfb : firstB xs a with
  | none =>
    rw [if_neg]
    intro hw
    have hl := hlo.1 (hin.1 hw)
    have := List.find?_eq_none.1 hfb _ ((arr_full hf).2 hl.1)
    simp [hl.2] at this
  | some p =>
    obtain ⟨k1, k2, k3⟩ := find_least (sorted_extL (upto_sorted _) _ _) hfb
    have hw : winner xs p = a := by simpa using k1
    have hp := hlo.2 p ((arr_full hf).1 k2) hw
    rw [if_pos (hin.2 hp.1)]
    have hl := hlo.1 hp.1
    congr 1
    exact lxe_antisymm (k3 _ ((arr_full hf).2 hl.1) (by simpa using hl.2)) hp.2

end Go.Proofs.YtbaljgdepicigaaDoor
/-
  Plain lemmas on kings who can win a bracket: no program.
-/
namespace Go.Proofs.YtbaljgdepicigaaDoor
set_option linter.unusedVariables false

theorem winner2 (xs : List Int) (a b : Int) : winner xs [a, b] = game xs a b := by
  rw [winner_step (by simp)]; simp only [nextR]; exact winner_one xs _
theorem winner4 (xs : List Int) (a b c d : Int) : winner xs [a, b, c, d] = game xs (game xs a b) (game xs c d) := by
  rw [winner_step (by simp)]; simp only [nextR]; exact winner2 xs _ _
theorem winner8 (xs : List Int) (a b c d e f g h : Int) : winner xs [a, b, c, d, e, f, g, h] = game xs (game xs (game xs a b) (game xs c d)) (game xs (game xs e f) (game xs g h)) := by
  rw [winner_step (by simp)]; simp only [nextR]; exact winner4 xs _ _ _ _
/-- x beats y, whoever stands first. -/
def Bt (xs : List Int) (x y : Int) : Prop := game xs x y = x ∧ game xs y x = x
theorem bt_of {n : Nat} {xs : List Int} (ht : tourOk (n : Int) xs) {a b : Nat} (ha : a < n) (hb : b < n) (h : bts xs a b) : Bt xs (a : Int) (b : Int) := by
  have hsz := tourOk_size ht
  have hne : a ≠ b := by rintro rfl; exact bts_self ht (by omega) h
  have h2 := (bts_anti ht (by omega) (by omega) hne).1 h
  unfold Bt game
  refine ⟨?_, ?_⟩
  · rw [if_neg]
    rintro (h3 | ⟨_, h3⟩)
    · omega
    · rw [Int.toNat_natCast, Int.toNat_natCast] at h3; exact h2 h3
  · rw [if_pos]
    exact .inr ⟨by omega, by rw [Int.toNat_natCast, Int.toNat_natCast]; exact h⟩
theorem in_or {xs : List Int} {a u v : Int} (hu : Bt xs a u) (hv : Bt xs a v) : Bt xs a (game xs u v) := by
  rcases game_or xs u v with e | e <;> rw [e] <;> assumption
/-- A half that one wins whom a beats. -/
theorem half_a {xs : List Int} {a u v w : Int} (hu : Bt xs a u) (hv : Bt xs a (game xs v w)) : game xs (game xs a u) (game xs v w) = a := by rw [hu.1]; exact hv.1
theorem side_two {xs : List Int} {a k b u : Int} (hk : Bt xs a k) (hu : Bt xs a u) (hb : Bt xs k b) : Bt xs a (game xs k (game xs b u)) := by
  rcases game_or xs b u with e | e
  · rw [e, hb.1]; exact hk
  · rw [e]; exact in_or hk hu
theorem erase_perm {l : List Int} {x : Int} {k : Nat} (h : x ∈ l) (hl : l.length = k + 1) : ∃ r, l.Perm (x :: r) ∧ r.length = k := ⟨l.erase x, List.perm_cons_erase h, by rw [List.length_erase_of_mem h, hl]; rfl⟩
theorem king8 {xs : List Int} {a : Int} {As Bs : List Int} (hA : ∀ x ∈ As, Bt xs a x) (hB : ∀ b ∈ Bs, ∃ k ∈ As, Bt xs k b) (hl : As.length + Bs.length = 7) (h4 : 4 ≤ As.length) :
    ∃ p : List Int, p.Perm (a :: (As ++ Bs)) ∧ winner xs p = a := by
  match Bs, hB, hl with
  | [], _, hl =>
    match As, hA, hl with
    | [p, q, r, s, t, u, v], hA, _ =>
      exact ⟨[a, p, q, r, s, t, u, v], by simp, by
        rw [winner8, half_a (hA p (by simp)) (in_or (hA q (by simp)) (hA r (by simp)))]
        exact (in_or (in_or (hA s (by simp)) (hA t (by simp))) (in_or (hA u (by simp)) (hA v (by simp)))).1⟩
  | [b], hB, hl =>
    obtain ⟨k, hk, hkb⟩ := hB b (by simp)
    obtain ⟨r, hp, hr⟩ := erase_perm (k := 5) hk (by simp at hl; omega)
    have hA' : ∀ x ∈ k :: r, Bt xs a x := fun x hx => hA x (hp.mem_iff.2 hx)
    match r, hp, hr, hA' with
    | [p, q, s, t, u], hp, _, hA' =>
      refine ⟨[a, p, q, s, k, b, t, u], ?_, ?_⟩
      · refine List.Perm.trans ?_ ((hp.append_right [b]).cons a).symm
        rw [List.perm_iff_count]; intro z; simp only [List.count_cons, List.count_nil, List.cons_append, List.nil_append]; omega
      · rw [winner8, half_a (hA' p (by simp)) (in_or (hA' q (by simp)) (hA' s (by simp))), hkb.1]
        exact (in_or (hA' k (by simp)) (in_or (hA' t (by simp)) (hA' u (by simp)))).1
  | [b1, b2], hB, hl =>
    obtain ⟨k1, hk1, hb1⟩ := hB b1 (by simp)
    obtain ⟨k2, hk2, hb2⟩ := hB b2 (by simp)
    obtain ⟨r, hp, hr⟩ := erase_perm (k := 4) hk1 (by simp at hl; omega)
    have hA' : ∀ x ∈ k1 :: r, Bt xs a x := fun x hx => hA x (hp.mem_iff.2 hx)
    by_cases e : k2 = k1
    · subst e
      match r, hp, hr, hA' with
      | [p, q, s, t], hp, _, hA' =>
        refine ⟨[a, p, q, s, k2, b1, b2, t], ?_, ?_⟩
        · refine List.Perm.trans ?_ ((hp.append_right [b1, b2]).cons a).symm
          rw [List.perm_iff_count]; intro z; simp only [List.count_cons, List.count_nil, List.cons_append, List.nil_append]; omega
        · rw [winner8, half_a (hA' p (by simp)) (in_or (hA' q (by simp)) (hA' s (by simp))), hb1.1]
          exact (side_two (hA' k2 (by simp)) (hA' t (by simp)) hb2).1
    · have hm2 : k2 ∈ r := by
        rcases List.mem_cons.1 (hp.mem_iff.1 hk2) with h | h
        · exact absurd h e
        · exact h
      obtain ⟨r2, hp2, hr2⟩ := erase_perm (k := 3) hm2 hr
      have hp3 := hp.trans (hp2.cons k1)
      have hA2 : ∀ x ∈ k1 :: k2 :: r2, Bt xs a x := fun x hx => hA x (hp3.mem_iff.2 hx)
      match r2, hp3, hr2, hA2 with
      | [p, q, s], hp3, _, hA2 =>
        refine ⟨[a, p, q, s, k1, b1, k2, b2], ?_, ?_⟩
        · refine List.Perm.trans ?_ ((hp3.append_right [b1, b2]).cons a).symm
          rw [List.perm_iff_count]; intro z; simp only [List.count_cons, List.count_nil, List.cons_append, List.nil_append]; omega
        · rw [winner8, half_a (hA2 p (by simp)) (in_or (hA2 q (by simp)) (hA2 s (by simp))), hb1.1, hb2.1]
          exact (in_or (hA2 k1 (by simp)) (hA2 k2 (by simp))).1
  | [b1, b2, b3], hB, hl =>
    -- two of the three fall to one, or each has one of its own
    have two : ∀ (k k' c1 c2 c3 : Int), k ∈ As → k' ∈ As → k' ≠ k → Bt xs k c1 → Bt xs k c2 → Bt xs k' c3 → [c1, c2, c3].Perm [b1, b2, b3] → ∃ p : List Int, p.Perm (a :: (As ++ [b1, b2, b3])) ∧ winner xs p = a := by
      intro k k' c1 c2 c3 hk hk' hne h1 h2 h3 hc
      obtain ⟨r, hp, hr⟩ := erase_perm (k := 3) hk (by simp at hl; omega)
      have hm2 : k' ∈ r := by
        rcases List.mem_cons.1 (hp.mem_iff.1 hk') with h | h
        · exact absurd h hne
        · exact h
      obtain ⟨r2, hp2, hr2⟩ := erase_perm (k := 2) hm2 hr
      have hp3 := hp.trans (hp2.cons k)
      have hA2 : ∀ x ∈ k :: k' :: r2, Bt xs a x := fun x hx => hA x (hp3.mem_iff.2 hx)
      match r2, hp3, hr2, hA2 with
      | [x, y], hp3, _, hA2 =>
        refine ⟨[a, y, k', c3, k, c1, c2, x], ?_, ?_⟩
        · refine List.Perm.trans ?_ ((hp3.append hc.symm).cons a).symm
          rw [List.perm_iff_count]; intro z; simp only [List.count_cons, List.count_nil, List.cons_append, List.nil_append]; omega
        · rw [winner8, h3.1, h1.1, (hA2 y (by simp)).1, (hA2 k' (by simp)).1]
          exact (side_two (hA2 k (by simp)) (hA2 x (by simp)) h2).1
    obtain ⟨k1, hk1, hb1⟩ := hB b1 (by simp)
    obtain ⟨k2, hk2, hb2⟩ := hB b2 (by simp)
    obtain ⟨k3, hk3, hb3⟩ := hB b3 (by simp)
    by_cases e12 : k2 = k1
    · subst e12
      by_cases e13 : k3 = k2
      · subst e13
        obtain ⟨r, hp, hr⟩ := erase_perm (k := 3) hk1 (by simp at hl; omega)
        have hA' : ∀ x ∈ k3 :: r, Bt xs a x := fun x hx => hA x (hp.mem_iff.2 hx)
        match r, hp, hr, hA' with
        | [x, y, z], hp, _, hA' =>
          refine ⟨[a, x, y, z, k3, b1, b2, b3], ?_, ?_⟩
          · refine List.Perm.trans ?_ ((hp.append_right [b1, b2, b3]).cons a).symm
            rw [List.perm_iff_count]; intro z; simp only [List.count_cons, List.count_nil, List.cons_append, List.nil_append]; omega
          · rw [winner8, half_a (hA' x (by simp)) (in_or (hA' y (by simp)) (hA' z (by simp))), hb1.1]
            rcases game_or xs b2 b3 with e | e
            · rw [e, hb2.1]; exact (hA' k3 (by simp)).1
            · rw [e, hb3.1]; exact (hA' k3 (by simp)).1
      · exact two k2 k3 b1 b2 b3 hk2 hk3 e13 hb1 hb2 hb3 (List.Perm.refl _)
    · by_cases e13 : k3 = k1
      · subst e13
        exact two k3 k2 b1 b3 b2 hk3 hk2 e12 hb1 hb3 hb2 ((List.Perm.swap _ _ _).cons b1)
      · by_cases e23 : k3 = k2
        · subst e23
          refine two k3 k1 b2 b3 b1 hk3 hk1 (fun e => e12 e.symm) hb2 hb3 hb1 ?_
          rw [List.perm_iff_count]; intro z; simp only [List.count_cons, List.count_nil]; omega
        · obtain ⟨r, hp, hr⟩ := erase_perm (k := 3) hk1 (by simp at hl; omega)
          have hm2 : k2 ∈ r := by
            rcases List.mem_cons.1 (hp.mem_iff.1 hk2) with h | h
            · exact absurd h e12
            · exact h
          obtain ⟨r2, hp2, hr2⟩ := erase_perm (k := 2) hm2 hr
          have hp3 := hp.trans (hp2.cons k1)
          have hm3 : k3 ∈ r2 := by
            rcases List.mem_cons.1 (hp3.mem_iff.1 hk3) with h | h
            · exact absurd h e13
            · rcases List.mem_cons.1 h with h | h
              · exact absurd h e23
              · exact h
          obtain ⟨r3, hp4, hr3⟩ := erase_perm (k := 1) hm3 hr2
          have hp5 := hp3.trans ((hp4.cons k2).cons k1)
          have hA2 : ∀ x ∈ k1 :: k2 :: k3 :: r3, Bt xs a x := fun x hx => hA x (hp5.mem_iff.2 hx)
          match r3, hp5, hr3, hA2 with
          | [x], hp5, _, hA2 =>
            refine ⟨[a, x, k3, b3, k1, b1, k2, b2], ?_, ?_⟩
            · refine List.Perm.trans ?_ ((hp5.append_right [b1, b2, b3]).cons a).symm
              rw [List.perm_iff_count]; intro z; simp only [List.count_cons, List.count_nil, List.cons_append, List.nil_append]; omega
            · rw [winner8, hb3.1, hb1.1, hb2.1, (hA2 x (by simp)).1, (hA2 k3 (by simp)).1]
              exact (in_or (hA2 k1 (by simp)) (hA2 k2 (by simp))).1
  | _ :: _ :: _ :: _ :: _, _, hl => simp at hl; omega
theorem king4 {xs : List Int} {a : Int} {As Bs : List Int} (hA : ∀ x ∈ As, Bt xs a x) (hB : ∀ b ∈ Bs, ∃ k ∈ As, Bt xs k b) (hl : As.length + Bs.length = 3) (h2 : 2 ≤ As.length) :
    ∃ p : List Int, p.Perm (a :: (As ++ Bs)) ∧ winner xs p = a := by
  match Bs, hB, hl with
  | [], _, hl =>
    match As, hA, hl with
    | [p, q, r], hA, _ =>
      exact ⟨[a, p, q, r], by simp, by rw [winner4]; exact half_a (hA p (by simp)) (in_or (hA q (by simp)) (hA r (by simp)))⟩
  | [b], hB, hl =>
    obtain ⟨k, hk, hkb⟩ := hB b (by simp)
    obtain ⟨r, hp, hr⟩ := erase_perm (k := 1) hk (by simp at hl; omega)
    have hA' : ∀ x ∈ k :: r, Bt xs a x := fun x hx => hA x (hp.mem_iff.2 hx)
    match r, hp, hr, hA' with
    | [x], hp, _, hA' =>
      refine ⟨[a, x, k, b], ?_, ?_⟩
      · refine List.Perm.trans ?_ ((hp.append_right [b]).cons a).symm
        rw [List.perm_iff_count]; intro z; simp only [List.count_cons, List.count_nil, List.cons_append, List.nil_append]; omega
      · rw [winner4, hkb.1, (hA' x (by simp)).1]; exact (hA' k (by simp)).1
  | _ :: _ :: _, _, hl => simp at hl; omega
/-! ### A king who beats half of the players -/
theorem mems_len : ∀ m : Nat, m < 256 → (mems m).length = pc m := by decide +kernel
theorem mems_nodup (m : Nat) : (mems m).Nodup := by
  unfold mems memTo
  rw [List.nodup_iff_pairwise_ne, List.pairwise_map]
  exact (((List.nodup_range (n := 8)).filter _).imp fun h e => h (by omega))
theorem orRows_bits (xs : List Int) (i : Nat) : ∀ (l : List Int) (out : Nat), (orRows xs out l).testBit i = (out.testBit i || l.any fun x => (rowN xs x).testBit i) := by
  intro l
  induction l with
  | nil => intro out; simp [orRows]
  | cons x l ih =>
    intro out
    have e : orRows xs out (x :: l) = orRows xs (out ||| rowN xs x) l := rfl
    rw [e, ih, Nat.testBit_or, List.any_cons, Bool.or_assoc]
theorem strong_wins {s : Int} {xs : List Int} {a : Int} (h : strongKing s xs a) : canWin s xs a := by
  obtain ⟨hf, ha, hk, hsc⟩ := h
  have hsz := tourOk_size hf.1
  obtain ⟨n, rfl⟩ : ∃ n : Nat, s = (n : Int) := ⟨s.toNat, by omega⟩
  have hl : xs.length = n := by omega
  obtain ⟨k, rfl⟩ : ∃ k : Nat, a = (k : Int) := ⟨a.toNat, by omega⟩
  have hkn : k < n := by omega
  have hn8 : n ≤ 8 := by omega
  obtain ⟨r, hr, hrlt⟩ := row_nat hf.1 (a := k) (by omega)
  rw [hl] at hrlt
  have hrn : rowN xs (k : Int) = r := by simp [rowN, List.getD, hr]
  have h256 : 2 ^ n ≤ 2 ^ 8 := Nat.pow_le_pow_right (by omega) hn8
  have hr8 : r < 256 := by omega
  have hself : r.testBit k = false := by
    cases e : r.testBit k with
    | false => rfl
    | true => exact absurd ((bts_nat hr).2 e) (bts_self hf.1 (by omega))
  have hfs := fullS_ok (s := (n : Int)) (by omega) (by omega)
  rw [Int.toNat_natCast] at hfs
  have hfb : ∀ i, (fullS (n : Int)).testBit i = decide (i < n) := fun i => by unfold fullS; rw [Int.toNat_natCast, Nat.testBit_two_pow_sub_one]
  unfold isKing at hk
  rw [Int.toNat_natCast, hrn] at hk
  rw [hrn] at hsc
  -- the others
  obtain ⟨R, hR⟩ : ∃ R, R = r ||| 2 ^ k := ⟨_, rfl⟩
  have hob := or_bit r hr8 k (by omega)
  rw [hself, ← hR] at hob
  have hRb : ∀ i, R.testBit i = (r.testBit i || decide (k = i)) := fun i => by rw [hR, Nat.testBit_or, Nat.testBit_two_pow]
  have hrb : ∀ i, r.testBit i = true → i < n := fun i hi => bit_ltn hrlt hi
  have hRF : R &&& fullS (n : Int) = R := by
    apply Nat.eq_of_testBit_eq
    intro i
    rw [Nat.testBit_and, hfb]
    cases e : R.testBit i with
    | false => rfl
    | true =>
      have : i < n := by
        rw [hRb] at e
        cases e2 : r.testBit i with
        | true => exact hrb i e2
        | false => rw [e2] at e; simp at e; omega
      simpa using this
  have hhb := half_bits hfs.1 hRF
  have hlA := mems_len r hr8
  have hlB := mems_len (fullS (n : Int) - R) (by omega)
  have hpR : pc R = pc r + 1 := by simp at hob; exact hob.2
  have hA : ∀ x ∈ mems r, Bt xs (k : Int) x := fun x hx => by
    obtain ⟨j, hj, hb, rfl⟩ := mem_mems.1 hx
    exact bt_of hf.1 hkn (hrb j hb) ((bts_nat hr).2 hb)
  have hB : ∀ b ∈ mems (fullS (n : Int) - R), ∃ y ∈ mems r, Bt xs y b := fun b hbm => by
    obtain ⟨j, hj, hb, rfl⟩ := mem_mems.1 hbm
    rw [hhb.2.2.1, Bool.and_eq_true, hfb, hRb] at hb
    have hjn : j < n := by simpa using hb.1
    have hnr : r.testBit j = false ∧ ¬ k = j := by simpa using hb.2
    have hbit := congrArg (fun z => z.testBit j) hk
    simp only [orRows_bits, hfb, Nat.testBit_or, Nat.testBit_two_pow] at hbit
    have hany : (mems r).any (fun x => (rowN xs x).testBit j) = true := by
      rw [hnr.1] at hbit
      simpa [hnr.2, hjn] using hbit
    rw [List.any_eq_true] at hany
    obtain ⟨y, hy, hyb⟩ := hany
    obtain ⟨q, hq, hqb, rfl⟩ := mem_mems.1 hy
    have hqn := hrb q hqb
    exact ⟨_, hy, bt_of hf.1 hqn hjn ((row_bts hf.1 (by omega)).1 hyb)⟩
  have hnodup : ((k : Int) :: (mems r ++ mems (fullS (n : Int) - R))).Nodup := by
    rw [List.nodup_cons, List.nodup_append]
    refine ⟨fun hm => ?_, mems_nodup _, mems_nodup _, fun x hx y hy e => ?_⟩
    · rcases List.mem_append.1 hm with hm | hm
      · obtain ⟨j, _, hb, e⟩ := mem_mems.1 hm
        obtain rfl : k = j := by omega
        rw [hself] at hb; cases hb
      · obtain ⟨j, _, hb, e⟩ := mem_mems.1 hm
        obtain rfl : k = j := by omega
        rw [hhb.2.2.1, hRb] at hb
        simp at hb
    · subst e
      obtain ⟨j, _, hb, rfl⟩ := mem_mems.1 hx
      obtain ⟨i, _, hb2, e⟩ := mem_mems.1 hy
      obtain rfl : j = i := by omega
      rw [hhb.2.2.1, hRb, hb] at hb2
      simp at hb2
  have hmem : ∀ x ∈ (k : Int) :: (mems r ++ mems (fullS (n : Int) - R)), x ∈ mems (fullS (n : Int)) := fun x hx => by
    rcases List.mem_cons.1 hx with rfl | hx
    · exact mem_mems.2 ⟨k, by omega, by rw [hfb]; simpa using hkn, rfl⟩
    · rcases List.mem_append.1 hx with hx | hx
      · obtain ⟨j, hj, hb, rfl⟩ := mem_mems.1 hx
        exact mem_mems.2 ⟨j, hj, by rw [hfb]; simpa using hrb j hb, rfl⟩
      · obtain ⟨j, hj, hb, rfl⟩ := mem_mems.1 hx
        rw [hhb.2.2.1, Bool.and_eq_true] at hb
        exact mem_mems.2 ⟨j, hj, hb.1, rfl⟩
  have hp2 := brk_pw2 hf.2
  have hgo : ∃ p : List Int, p.Perm ((k : Int) :: (mems r ++ mems (fullS (n : Int) - R))) ∧ winner xs p = (k : Int) := by
    have hb := hf.2
    unfold brkSize at hb
    have hsum : (mems r).length + (mems (fullS (n : Int) - R)).length = n - 1 := by omega
    rcases hb with hb | hb | hb | hb
    · have e1 : mems r = [] := List.length_eq_zero_iff.1 (by omega)
      have e2 : mems (fullS (n : Int) - R) = [] := List.length_eq_zero_iff.1 (by omega)
      rw [e1, e2]
      exact ⟨[(k : Int)], by simp, winner_one _ _⟩
    · have h1 : (mems r).length = 1 := by omega
      have e2 : mems (fullS (n : Int) - R) = [] := List.length_eq_zero_iff.1 (by omega)
      obtain ⟨x, hx⟩ := List.length_eq_one_iff.1 h1
      rw [e2, hx]
      exact ⟨[(k : Int), x], by simp, by rw [winner2]; exact (hA x (by rw [hx]; simp)).1⟩
    · exact king4 hA hB (by omega) (by omega)
    · exact king8 hA hB (by omega) (by omega)
  obtain ⟨p, hp, hw⟩ := hgo
  have harr : Arr (lg (n : Int)) (fullS (n : Int)) p := by
    refine ⟨?_, hp.nodup_iff.2 hnodup, fun x hx => hmem x (hp.mem_iff.1 hx)⟩
    rw [hp.length_eq, List.length_cons, List.length_append]
    omega
  have hlo := least_ok hf.1 (lg (n : Int)) (fullS (n : Int)) (by rw [hl]; exact hfs.2.2) (by rw [hfs.2.1]; omega) k
  refine ⟨hf, ha, ?_⟩
  unfold inSet possW
  rw [if_pos hf, Int.toNat_natCast, Int.toNat_natCast]
  exact (hlo.2 p harr hw).1

end Go.Proofs.YtbaljgdepicigaaDoor
/-
  Plain lemmas on who wins brackets: scores, sovereigns, counts: no program.
-/
namespace Go.Proofs.YtbaljgdepicigaaDoor
set_option linter.unusedVariables false

theorem pc_pos : ∀ m : Nat, m < 256 → 0 < m → 0 < pc m := by decide +kernel
theorem bit_pos {m i : Nat} (h : m.testBit i = true) : 0 < m := by
  rcases Nat.eq_zero_or_pos m with e | e
  · rw [e, Nat.zero_testBit] at h; cases h
  · exact e
theorem pc_and_le {r set : Nat} (hr : r < 256) : pc (r &&& set) ≤ pc r := by
  have h : (r &&& set) &&& r = r &&& set := by
    apply Nat.eq_of_testBit_eq; intro i
    simp only [Nat.testBit_and]
    cases r.testBit i <;> simp
  have := (half_bits hr h).2.2.2
  omega
theorem win_score {xs : List Int} {a : Nat} (hr : rowN xs (a : Int) < 256) : ∀ (k set : Nat), set < 256 → pc set = pw2 k → (win xs k set).testBit a = true → k ≤ pc (rowN xs (a : Int) &&& set) := by
  intro k
  induction k with
  | zero => intro _ _ _ _; exact Nat.zero_le _
  | succ k ih =>
    intro set hs hp h
    obtain ⟨g, hv, h1, b, hb8, h2, h3⟩ := (win_bit hs hp).1 h
    have hh := hal_lt hs hp hv
    have i1 := ih g (by omega) hv.2.2 h1
    have hb := half_bits hs hv.2.1
    have hm : rowN xs (a : Int) &&& set < 256 := Nat.lt_of_le_of_lt Nat.and_le_left hr
    have hsub : (rowN xs (a : Int) &&& g) &&& (rowN xs (a : Int) &&& set) = rowN xs (a : Int) &&& g := by
      apply Nat.eq_of_testBit_eq; intro i
      simp only [Nat.testBit_and]
      cases e : g.testBit i with
      | false => simp
      | true => rw [subB_and hv.2.1 i e]; cases (rowN xs (a : Int)).testBit i <;> rfl
    have hd := half_bits hm hsub
    have hbit : ((rowN xs (a : Int) &&& set) - (rowN xs (a : Int) &&& g)).testBit b = true := by
      have hwb := win_sub xs k (set - g) (by omega) hh.2.1.2.2 b h3
      rw [hb.2.2.1] at hwb
      rw [hd.2.2.1, Nat.testBit_and, Nat.testBit_and, h2]
      simpa using hwb
    have hpos := pc_pos _ (by omega) (bit_pos hbit)
    have := hd.2.2.2
    omega
theorem winner_score {n : Nat} {xs : List Int} {a : Nat} (hf : fixedOk (n : Int) xs) (ha : a < n) (h : canWin (n : Int) xs (a : Int)) : lg (n : Int) ≤ pc (rowN xs (a : Int)) := by
  have hsz := tourOk_size hf.1
  obtain ⟨r, hr, hlt⟩ := row_nat hf.1 (a := a) (by omega)
  have h256 : 2 ^ xs.length ≤ 2 ^ 8 := Nat.pow_le_pow_right (by omega) hsz.2.1
  have hrn : rowN xs (a : Int) = r := by simp [rowN, List.getD, hr]
  have hfs := fullS_ok (s := (n : Int)) (by omega) (by omega)
  have hp2 := brk_pw2 hf.2
  rw [Int.toNat_natCast] at hfs
  have hw := h.2.2
  unfold inSet possW at hw
  rw [if_pos hf, Int.toNat_natCast, Int.toNat_natCast] at hw
  have h1 := win_score (xs := xs) (a := a) (by omega) (lg (n : Int)) (fullS (n : Int)) hfs.1 (by rw [hfs.2.1]; omega) hw
  exact Nat.le_trans h1 (pc_and_le (by omega))
/-- One who beats all others wins every bracket. -/
theorem sov_wins {xs : List Int} {v : Int} : ∀ (k : Nat) (p : List Int), p.length = pw2 k → p.Nodup → v ∈ p → (∀ b ∈ p, b ≠ v → Bt xs v b) → winner xs p = v := by
  intro k
  induction k with
  | zero =>
    intro p hl _ hv _
    obtain ⟨x, rfl⟩ := List.length_eq_one_iff.1 (show p.length = 1 from hl)
    rw [winner_one]; have h := List.mem_singleton.1 hv; exact h.symm
  | succ k ih =>
    intro p hl hn hv hb
    have hk := pw2_pos k
    have hk2 := pw2_eq k
    obtain ⟨p1, p2, rfl, hl1⟩ : ∃ p1 p2, p = p1 ++ p2 ∧ p1.length = pw2 k := ⟨p.take (pw2 k), p.drop (pw2 k), (List.take_append_drop _ _).symm, by rw [List.length_take]; omega⟩
    rw [List.length_append] at hl
    rw [List.nodup_append] at hn
    rw [winner_append xs k p1 p2 hl1 (by omega)]
    rcases List.mem_append.1 hv with h | h
    · rw [ih p1 hl1 hn.1 h (fun b hb' => hb b (by simp [hb']))]
      have hm := winner_mem xs (p := p2) (by omega)
      exact (hb _ (by simp [hm]) (fun e => hn.2.2 v h _ hm e.symm)).1
    · rw [ih p2 (by omega) hn.2.1 h (fun b hb' => hb b (by simp [hb']))]
      have hm := winner_mem xs (p := p1) (by omega)
      exact (hb _ (by simp [hm]) (fun e => hn.2.2 _ hm v h e)).2
/-- Then nobody else can win. -/
theorem sov_only {n : Nat} {xs : List Int} {v : Nat} (hf : fixedOk (n : Int) xs) (hv : v < n) (hb : ∀ b : Nat, b < n → b ≠ v → bts xs v b) : possW (n : Int) xs = ((2 ^ v : Nat) : Int) := by
  have hsz := tourOk_size hf.1
  have hfs := fullS_ok (s := (n : Int)) (by omega) (by omega)
  have hp2 := brk_pw2 hf.2
  rw [Int.toNat_natCast] at hfs
  have hl : xs.length = n := by omega
  have hlo := fun a => least_ok hf.1 (lg (n : Int)) (fullS (n : Int)) (by rw [hl]; exact hfs.2.2) (by rw [hfs.2.1]; omega) a
  have hfb : ∀ i, (fullS (n : Int)).testBit i = decide (i < n) := fun i => by unfold fullS; rw [Int.toNat_natCast, Nat.testBit_two_pow_sub_one]
  have hall : ∀ p, Arr (lg (n : Int)) (fullS (n : Int)) p → winner xs p = (v : Int) := fun p hp => by
    have hbd : ∀ x ∈ p, 0 ≤ x ∧ x < (n : Int) := fun x hx => by
      obtain ⟨j, _, hb, rfl⟩ := mem_mems.1 (hp.2.2 x hx)
      rw [hfb] at hb
      have : j < n := by simpa using hb
      omega
    obtain ⟨i, hi, e⟩ := nodup_full (n := n) (by omega) ⟨by rw [hp.1]; omega, hp.2.1, hbd⟩ v hv
    refine sov_wins _ p hp.1 hp.2.1 (List.mem_of_getElem? e) (fun b hbm hne => ?_)
    have hbb := hbd b hbm
    obtain ⟨j, rfl⟩ : ∃ j : Nat, b = (j : Int) := ⟨b.toNat, by omega⟩
    exact bt_of hf.1 hv (by omega) (hb j (by omega) (by omega))
  unfold possW
  rw [if_pos hf]
  congr 1
  apply Nat.eq_of_testBit_eq
  intro i
  rw [Nat.testBit_two_pow]
  have hone : (win xs (lg (n : Int)) (fullS (n : Int))).testBit v = true := by
    -- any bracket is won by v
    have hup : Arr (lg (n : Int)) (fullS (n : Int)) (upto n) := ⟨by rw [upto_len]; omega, upto_nodup n, fun x hx => by
      have := upto_mem.1 hx
      exact mem_mems.2 ⟨x.toNat, by omega, by rw [hfb]; simp; omega, by omega⟩⟩
    exact ((hlo v).2 _ hup (hall _ hup)).1
  by_cases e : v = i
  · subst e; rw [hone]; simp
  · cases ei : (win xs (lg (n : Int)) (fullS (n : Int))).testBit i with
    | false => simp [e]
    | true =>
      obtain ⟨h1, h2⟩ := (hlo i).1 ei
      have := hall _ h1
      rw [h2] at this
      omega
/-- Somebody can win. -/
theorem some_wins {n : Nat} {xs : List Int} (hf : fixedOk (n : Int) xs) : 0 < win xs (lg (n : Int)) (fullS (n : Int)) ∧ win xs (lg (n : Int)) (fullS (n : Int)) < 2 ^ n := by
  have hsz := tourOk_size hf.1
  have hfs := fullS_ok (s := (n : Int)) (by omega) (by omega)
  have hp2 := brk_pw2 hf.2
  rw [Int.toNat_natCast] at hfs
  have hl : xs.length = n := by omega
  have hfb : ∀ i, (fullS (n : Int)).testBit i = decide (i < n) := fun i => by unfold fullS; rw [Int.toNat_natCast, Nat.testBit_two_pow_sub_one]
  have hup : Arr (lg (n : Int)) (fullS (n : Int)) (upto n) := ⟨by rw [upto_len]; omega, upto_nodup n, fun x hx => by
    have := upto_mem.1 hx
    exact mem_mems.2 ⟨x.toNat, by omega, by rw [hfb]; simp; omega, by omega⟩⟩
  have hm := winner_mem xs (p := upto n) (by rw [upto_len]; omega)
  have hmb := upto_mem.1 hm
  obtain ⟨j, hj⟩ : ∃ j : Nat, winner xs (upto n) = (j : Int) := ⟨(winner xs (upto n)).toNat, by omega⟩
  have h1 := ((least_ok hf.1 (lg (n : Int)) (fullS (n : Int)) (by rw [hl]; exact hfs.2.2) (by rw [hfs.2.1]; omega) j).2 _ hup hj).1
  exact ⟨bit_pos h1, lt_of_sub (win_sub xs _ _ hfs.1 (by rw [hfs.2.1]; omega)) hfs.2.2⟩

end Go.Proofs.YtbaljgdepicigaaDoor
