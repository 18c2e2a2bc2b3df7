/-
  Plain lemmas on what double elimination answers: no program.
-/
import Derived.Test.YtbaljgdepicigaaBase
import Derived.Test.YtbaljgdepicigaaMathA
import Derived.Test.YtbaljgdepicigaaMathD
import Derived.Test.YtbaljgdepicigaaMathB
import Derived.Test.YtbaljgdepicigaaMathU
import Derived.Test.YtbaljgdepicigaaMathW
import Derived.Test.YtbaljgdepicigaaMathZ
import Derived.Test.YtbaljgdepicigaaMathY
import Derived.Test.YtbaljgdepicigaaMathG
import Derived.Test.YtbaljgdepicigaaMathQ
import Derived.Test.YtbaljgdepicigaaMathX
import Derived.Test.YtbaljgdepicigaaMathF
import Derived.Test.YtbaljgdepicigaaMathN
namespace Go.Proofs.Ytbaljgdepicigaa
set_option linter.unusedVariables false

/-- Of two players one beats the other. -/
def totalOn (xs o : List Int) : Prop := ∀ a ∈ o, ∀ b ∈ o, a ≠ b → ¬ beatsI xs a b → beatsI xs b a
theorem total_upto {n : Nat} {xs : List Int} (ht : tourOk (n : Int) xs) {o : List Int} (ho : ∀ x ∈ o, 0 ≤ x ∧ x < (n : Int)) : totalOn xs o := fun a ha b hb hne h => by
  have hl := tourOk_size ht
  have h1 := ho a ha
  have h2 := ho b hb
  unfold beatsI at *
  exact (bts_anti ht (by omega) (by omega) (by omega)).2 h
theorem step_form (xs : List Int) (d : DS) : ∃ a b, (stepD xs d).g = d.g ++ [[won xs a b, lostG xs a b]] := by
  unfold stepD
  split
  · exact ⟨_, _, rfl⟩
  · split
    · exact ⟨_, _, rfl⟩
    · split
      · rename_i h; exact ⟨d.f.getD 0 0, d.s.getD 0 0, by unfold won lostG; rw [if_pos h, if_pos h]⟩
      · rename_i h; exact ⟨d.f.getD 0 0, d.s.getD 0 0, by unfold won lostG; rw [if_neg h, if_neg h]⟩
theorem game_form (xs o : List Int) (j : Nat) : ∀ x ∈ (stD xs o j).g, ∃ a b, x = [won xs a b, lostG xs a b] := by
  induction j with
  | zero => intro x hx; cases hx
  | succ j ih =>
    intro x hx
    obtain ⟨a, b, e⟩ := step_form xs (stD xs o j)
    change x ∈ (stepD xs (stD xs o j)).g at hx
    rw [e] at hx
    rcases List.mem_append.1 hx with hx | hx
    · exact ih x hx
    · simp at hx; exact ⟨a, b, hx⟩
theorem won_beats {xs o : List Int} (ht : totalOn xs o) {a b u v : Int} (hu : won xs a b = u) (hv : lostG xs a b = v) (hne : u ≠ v) (h1 : u ∈ o) (h2 : v ∈ o) : beatsI xs u v := by
  unfold won at hu
  unfold lostG at hv
  by_cases e : beatsI xs a b
  · rw [if_pos e] at hu hv
    rw [← hu, ← hv]; exact e
  · rw [if_neg e] at hu hv
    subst hu hv
    exact ht _ h2 _ h1 (fun e2 => hne e2.symm) e
theorem game_beats {xs o : List Int} (ho : o.Nodup) (ht : totalOn xs o) : ∀ x ∈ doubleG xs o, ∃ u v, x = [u, v] ∧ u ≠ v ∧ u ∈ o ∧ v ∈ o ∧ beatsI xs u v := by
  intro x hx
  obtain ⟨u, v, rfl, h1, h2, h3⟩ := game_two ho (lenD_ok xs o).2 x hx
  obtain ⟨a, b, e⟩ := game_form xs o _ _ hx
  simp at e
  exact ⟨u, v, rfl, h1, h2, h3, won_beats ht e.1.symm e.2.symm h1 h2 h3⟩
/-- Who is left, and how many games there were. -/
theorem double_end (xs : List Int) {o : List Int} (ho : o.Nodup) (h0 : o ≠ []) : ∃ w q, placesD xs o = w :: q ∧ (doubleG xs o).length + 2 = 2 * o.length + lossOf (doubleG xs o) w ∧ lossOf (doubleG xs o) w ≤ 1 ∧ (∀ x ∈ q, lossOf (doubleG xs o) x = 2) ∧
    (∀ k ∈ o, (∀ b ∈ o, b ≠ k → beatsI xs k b ∧ ¬ beatsI xs b k) → w = k ∧ lossOf (doubleG xs o) w = 0) := by
  obtain ⟨w, hw⟩ := end_one xs h0
  have hl := loss_st (xs := xs) ho (j := lenD xs o) (lenD_ok xs o).2
  have hwt := st_weight xs o (j := lenD xs o) (lenD_ok xs o).2
  have hgl := doubleG_len xs o
  change lossOk (endD xs o) at hl
  change weight (endD xs o) + _ = _ at hwt
  refine ⟨w, (endD xs o).p.reverse, ?_, ?_, ?_, fun x hx => hl.p x (by simpa using hx), fun k hk hb => ?_⟩
  · unfold placesD
    rw [List.append_assoc, hw, List.reverse_append]; rfl
  · unfold weight at hwt
    cases hf : (endD xs o).f with
    | nil =>
      rw [hf] at hw hwt
      have h1 := hl.s w (by rw [List.nil_append] at hw; rw [hw]; simp)
      rw [List.nil_append] at hw
      rw [hw] at hwt
      simp at hwt
      show _ = _ + lossOf (endD xs o).g w
      omega
    | cons y r =>
      rw [hf] at hw hwt
      simp at hw
      obtain ⟨rfl, rfl, hs⟩ := hw
      have h1 := hl.f y (by rw [hf]; simp)
      rw [hs] at hwt
      simp at hwt
      show _ = _ + lossOf (endD xs o).g y
      omega
  · have hm : w ∈ (endD xs o).f ++ (endD xs o).s := by rw [hw]; simp
    rcases List.mem_append.1 hm with hm | hm
    · have := hl.f w hm; unfold doubleG; omega
    · have := hl.s w hm; unfold doubleG; omega
  · have key : ∀ j, j ≤ lenD xs o → k ∈ (stD xs o j).f := by
      intro j
      induction j with
      | zero => intro _; exact hk
      | succ j ih =>
        intro hj
        have hh : ∀ i, i < j → goOn (stD xs o i) := fun i hi => (lenD_ok xs o).2 i (by omega)
        have hg := (lenD_ok xs o).2 j (by omega)
        have hin := ih (by omega)
        have hp := perm_st xs o hh
        have hn := hp.nodup_iff.2 ho
        show k ∈ (stepD xs (stD xs o j)).f
        generalize stD xs o j = d at *
        have hmem : ∀ x ∈ d.f ++ d.s, x ∈ o := fun x hx => hp.mem_iff.1 (by unfold allD; simp at hx ⊢; rcases hx with hx | hx <;> simp [hx])
        unfold allD at hn
        rw [List.nodup_append, List.nodup_append] at hn
        obtain ⟨⟨hf, hs, hfs⟩, _, _⟩ := hn
        unfold goOn at hg
        unfold stepD
        split
        · rename_i h1
          have e := two_of h1
          have ha : d.f.getD 0 0 ∈ o := hmem _ (by rw [e]; simp)
          have hb' : d.f.getD 1 0 ∈ o := hmem _ (by rw [e]; simp)
          rw [e] at hin hf
          generalize d.f.getD 0 0 = a at *
          generalize d.f.getD 1 0 = b at *
          generalize d.f.drop 2 = r at *
          have hab : a ≠ b := by simp at hf; exact fun e => hf.1.1 e
          show k ∈ r ++ [won xs a b]
          rcases List.mem_cons.1 hin with rfl | hin
          · have : won xs k b = k := if_pos (hb b hb' (fun e => hab e.symm)).1
            rw [this]; simp
          · rcases List.mem_cons.1 hin with rfl | hin
            · have h2 := hb a ha hab
              unfold won
              split
              · rename_i h3
                exact absurd h3 h2.2
              · simp
            · simp [hin]
        · split
          · exact hin
          · rename_i h1 h2
            have e1 := one_of (l := d.f) (by have := List.length_pos_iff.2 (List.ne_nil_of_mem hin); omega)
            have e2 := one_of (l := d.s) (by have := List.length_pos_iff.2 (List.ne_nil_of_mem hin); omega)
            have hb' : d.s.getD 0 0 ∈ o := hmem _ (by rw [e2]; simp)
            rw [e1] at hin
            have hka : k = d.f.getD 0 0 := by simpa using hin
            have hne : d.s.getD 0 0 ≠ k := fun e => hfs k (by rw [e1]; simpa using hka) (d.s.getD 0 0) (by rw [e2]; simp) e.symm
            rw [if_pos (by rw [← hka]; exact (hb _ hb' hne).1)]
            rw [e1]; simpa using hka
    have hkf := key _ (Nat.le_refl _)
    change k ∈ (endD xs o).f at hkf
    have hkw : k ∈ (endD xs o).f ++ (endD xs o).s := by simp [hkf]
    rw [hw] at hkw
    have : k = w := by simpa using hkw
    subst this
    exact ⟨rfl, hl.f k hkf⟩

/-! ### How often all play -/
def playSum (g : List (List Int)) (l : List Int) : Nat := (l.map fun a => playsOf g a).sum
theorem playSum_snoc (g : List (List Int)) (l : List Int) (a : Int) : playSum g (l ++ [a]) = playSum g l + playsOf g a := by simp [playSum]
theorem plays_cons (x : List Int) (g : List (List Int)) (a : Int) : playsOf (x :: g) a = playsOf g a + if a ∈ x then 1 else 0 := by
  unfold playsOf; rw [List.countP_cons]; simp
theorem one_sum {u : Int} : ∀ {l : List Int}, l.Nodup → u ∈ l → (l.map fun a => if a = u then 1 else 0).sum = 1
  | [], _, h => by cases h
  | x :: l, hn, h => by
    rw [List.nodup_cons] at hn
    rw [List.map_cons, List.sum_cons]
    by_cases e : x = u
    · subst e
      have : (l.map fun a => if a = x then 1 else 0).sum = 0 := by
        have hz : ∀ l' : List Int, ¬ x ∈ l' → (l'.map fun a => if a = x then 1 else 0).sum = 0 := by
          intro l'
          induction l' with
          | nil => intro _; rfl
          | cons y l' ih => intro hh; simp at hh; rw [List.map_cons, List.sum_cons, ih hh.2, if_neg (fun e => hh.1 e.symm)]
        exact hz l hn.1
      rw [if_pos rfl, this]
    · rw [if_neg e]
      rcases List.mem_cons.1 h with rfl | h
      · exact absurd rfl e
      · rw [one_sum hn.2 h]
theorem two_sum {u v : Int} {l : List Int} (hn : l.Nodup) (huv : u ≠ v) (hu : u ∈ l) (hv : v ∈ l) : (l.map fun a => if a ∈ [u, v] then 1 else 0).sum = 2 := by
  have e : (l.map fun a => if a ∈ [u, v] then 1 else 0) = l.map fun a => (if a = u then 1 else 0) + if a = v then 1 else 0 := by
    apply List.map_congr_left
    intro a _
    by_cases h1 : a = u
    · subst h1; simp [huv]
    · by_cases h2 : a = v
      · subst h2; simp [h1]
      · simp [h1, h2]
  rw [e]
  have key : ∀ (f g : Int → Nat) (l : List Int), (l.map fun a => f a + g a).sum = (l.map f).sum + (l.map g).sum := by
    intro f g l
    induction l with
    | nil => rfl
    | cons x l ih => simp only [List.map_cons, List.sum_cons, ih]; omega
  rw [key, one_sum hn hu, one_sum hn hv]
theorem plays_all {l : List Int} (hn : l.Nodup) : ∀ g : List (List Int), (∀ x ∈ g, ∃ u v : Int, x = [u, v] ∧ u ≠ v ∧ u ∈ l ∧ v ∈ l) → playSum g l = 2 * g.length := by
  intro g
  induction g with
  | nil =>
    intro _
    have hz : ∀ l' : List Int, (l'.map fun a => playsOf [] a).sum = 0 := by
      intro l'
      induction l' with
      | nil => rfl
      | cons y l' ih => rw [List.map_cons, List.sum_cons, ih]; rfl
    exact hz l
  | cons x g ih =>
    intro h
    obtain ⟨u, v, rfl, h1, h2, h3⟩ := h x (by simp)
    have ih := ih (fun y hy => h y (by simp [hy]))
    have key : ∀ (f g : Int → Nat) (l : List Int), (l.map fun a => f a + g a).sum = (l.map f).sum + (l.map g).sum := by
      intro f g l
      induction l with
      | nil => rfl
      | cons x l ih => simp only [List.map_cons, List.sum_cons, ih]; omega
    have e : playSum ([u, v] :: g) l = playSum g l + (l.map fun a => if a ∈ [u, v] then 1 else 0).sum := by
      unfold playSum
      rw [← key]
      congr 1
      apply List.map_congr_left
      intro a _
      exact plays_cons _ _ _
    rw [e, ih, two_sum hn h1 h2 h3, List.length_cons]
    omega

/-! ### Single elimination -/
theorem stS_nodup (xs : List Int) {o : List Int} (ho : o.Nodup) : ∀ j, j + 1 ≤ o.length → (stS xs o j).r.Nodup := by
  intro j
  induction j with
  | zero => intro _; exact ho
  | succ j ih =>
    intro hj
    have ih := ih (by omega)
    have hl := (stS_len xs o (j := j) (by omega)).1
    have e := two_of (l := (stS xs o j).r) (by omega)
    show ((stS xs o j).r.drop 2 ++ [won xs ((stS xs o j).r.getD 0 0) ((stS xs o j).r.getD 1 0)]).Nodup
    rw [e] at ih
    generalize (stS xs o j).r.getD 0 0 = a at *
    generalize (stS xs o j).r.getD 1 0 = b at *
    generalize (stS xs o j).r.drop 2 = q at *
    rw [List.nodup_cons, List.nodup_cons] at ih
    rw [nodup_push]
    refine ⟨ih.2.2, ?_⟩
    rcases won_lost xs a b with ⟨h, _⟩ | ⟨h, _⟩ <;> rw [h]
    · intro hm; exact ih.1 (by simp [hm])
    · exact ih.2.1
theorem single_beats {xs o : List Int} (ho : o.Nodup) (ht : totalOn xs o) : ∀ j, j + 1 ≤ o.length → ∀ x ∈ (stS xs o j).g, ∃ u v, x = [u, v] ∧ u ∈ o ∧ v ∈ o ∧ beatsI xs u v := by
  intro j
  induction j with
  | zero => intro _ x hx; cases hx
  | succ j ih =>
    intro hj x hx
    have hn := stS_nodup xs ho j (by omega)
    have hl := (stS_len xs o (j := j) (by omega)).1
    have hm := stS_mem xs o (j := j) (by omega)
    have e := two_of (l := (stS xs o j).r) (by omega)
    change x ∈ (stS xs o j).g ++ [meetG xs ((stS xs o j).r.getD 0 0) ((stS xs o j).r.getD 1 0)] at hx
    rcases List.mem_append.1 hx with hx | hx
    · exact ih (by omega) x hx
    · rw [e] at hn hm
      generalize (stS xs o j).r.getD 0 0 = a at *
      generalize (stS xs o j).r.getD 1 0 = b at *
      have hab : a ≠ b := by rw [List.nodup_cons] at hn; intro e; exact hn.1 (by simp [e])
      have ha := hm a (by simp)
      have hb := hm b (by simp)
      obtain rfl : x = meetG xs a b := by simpa using hx
      rcases won_lost xs a b with ⟨w1, w2⟩ | ⟨w1, w2⟩
      · exact ⟨a, b, by unfold meetG; rw [w1, w2], ha, hb, won_beats ht w1 w2 hab ha hb⟩
      · exact ⟨b, a, by unfold meetG; rw [w1, w2], hb, ha, won_beats ht w1 w2 (fun e => hab e.symm) hb ha⟩
theorem single_last {xs o : List Int} {k : Int} (ho : o.Nodup) (hk : k ∈ o) (hb : ∀ b ∈ o, b ≠ k → beatsI xs k b ∧ ¬ beatsI xs b k) : ∀ j, j + 1 ≤ o.length → k ∈ (stS xs o j).r := by
  intro j
  induction j with
  | zero => intro _; exact hk
  | succ j ih =>
    intro hj
    have hin := ih (by omega)
    have hn := stS_nodup xs ho j (by omega)
    have hl := (stS_len xs o (j := j) (by omega)).1
    have hm := stS_mem xs o (j := j) (by omega)
    have e := two_of (l := (stS xs o j).r) (by omega)
    show k ∈ (stS xs o j).r.drop 2 ++ [won xs ((stS xs o j).r.getD 0 0) ((stS xs o j).r.getD 1 0)]
    rw [e] at hin hn hm
    generalize (stS xs o j).r.getD 0 0 = a at *
    generalize (stS xs o j).r.getD 1 0 = b at *
    generalize (stS xs o j).r.drop 2 = q at *
    have hab : a ≠ b := by rw [List.nodup_cons] at hn; intro e; exact hn.1 (by simp [e])
    rcases List.mem_cons.1 hin with rfl | hin
    · rw [show won xs k b = k from if_pos (hb b (hm b (by simp)) (fun e => hab e.symm)).1]; simp
    · rcases List.mem_cons.1 hin with rfl | hin
      · rw [show won xs a k = k from if_neg (hb a (hm a (by simp)) hab).2]; simp
      · simp [hin]
/-- The last game is won by the one who is left. -/
theorem single_end {xs o : List Int} {k : Int} (ho : o.Nodup) (hk : k ∈ o) (h2 : 2 ≤ o.length) (hb : ∀ b ∈ o, b ≠ k → beatsI xs k b ∧ ¬ beatsI xs b k) : ∃ v, (singleG xs o)[(singleG xs o).length - 1]? = some [k, v] := by
  obtain ⟨j, hj⟩ : ∃ j, o.length - 1 = j + 1 := ⟨o.length - 2, by omega⟩
  have h1 := single_last ho hk hb (j + 1) (by omega)
  have hl := stS_len xs o (j := j + 1) (by omega)
  have hlj := stS_len xs o (j := j) (by omega)
  unfold singleG
  rw [hj, hl.2]
  change k ∈ (stS xs o j).r.drop 2 ++ [won xs ((stS xs o j).r.getD 0 0) ((stS xs o j).r.getD 1 0)] at h1
  have hd : (stS xs o j).r.drop 2 = [] := List.length_eq_zero_iff.1 (by rw [List.length_drop]; omega)
  rw [hd] at h1
  have hw : k = won xs ((stS xs o j).r.getD 0 0) ((stS xs o j).r.getD 1 0) := by simpa using h1
  refine ⟨lostG xs ((stS xs o j).r.getD 0 0) ((stS xs o j).r.getD 1 0), ?_⟩
  show ((stS xs o j).g ++ [meetG xs ((stS xs o j).r.getD 0 0) ((stS xs o j).r.getD 1 0)])[j + 1 - 1]? = _
  rw [Nat.add_sub_cancel, List.getElem?_append_right (by omega), hlj.2, Nat.sub_self]
  unfold meetG
  rw [← hw]; rfl
/-- One who has as many wins as there are others beats them all. -/
theorem pc_others {n m k j : Nat} (hn : n ≤ 8) (hm : m < 2 ^ n) (hp : pc m = n - 1) (hk : k < n) (hb : m.testBit k = false) (hj : j < n) (hne : j ≠ k) : m.testBit j = true := by
  have h256 : 2 ^ n ≤ 2 ^ 8 := Nat.pow_le_pow_right (by omega) hn
  have h1 := or_bit m (by omega) k (by omega)
  rw [hb] at h1
  have hlt : m ||| 2 ^ k < 2 ^ n := Nat.or_lt_two_pow hm (Nat.pow_lt_pow_right (by omega) hk)
  have he := pc_full n (by omega) _ h1.1 hlt (by simp at h1; omega)
  have h2 := or_bit_get m (by omega) k (by omega) j (by omega)
  rw [he, Nat.testBit_two_pow_sub_one] at h2
  have h3 : (k == j) = false := by rw [beq_eq_false_iff_ne]; exact fun e => hne e.symm
  rw [h3, Bool.or_false] at h2
  rw [← h2]; simpa using hj

end Go.Proofs.Ytbaljgdepicigaa
