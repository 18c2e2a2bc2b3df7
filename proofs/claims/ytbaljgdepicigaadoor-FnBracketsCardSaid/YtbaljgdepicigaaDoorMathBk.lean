/-
  Plain lemmas on a bracket that is played: who is beaten, when two meet, how many games there are. No program.
-/
import Derived.Test.YtbaljgdepicigaaDoorBase
import Derived.Test.YtbaljgdepicigaaDoorMgA
import Derived.Test.YtbaljgdepicigaaDoorMathV
namespace Go.Proofs.YtbaljgdepicigaaDoor
set_option linter.unusedVariables false

theorem brk_two {s : Int} {br : List Int} (h : brk s br) (h1 : 1 < br.length) : br.length = 2 ∨ br.length = 4 ∨ br.length = 8 := by
  have := h.1; unfold brkSize at this; omega
theorem winB_mem {s : Int} (xs : List Int) {br : List Int} (h : brk s br) : winner xs br ∈ br ∧ 0 ≤ winner xs br := by
  by_cases h1 : 1 < br.length
  · rw [winner_step h1]
    have ih := winB_mem xs (brk_next xs h h1)
    exact ⟨nextR_mem xs br _ ih.1, ih.2⟩
  · rw [winner_end h1]
    have hl := brk_len h
    match br, hl, h with
    | [x], _, h =>
      have hp := h.2.2.1
      rw [ne_nil_mem] at hp
      obtain ⟨y, hy⟩ := hp
      rw [mem_plrs] at hy
      have : y = x := by simpa using hy.1
      subst this
      exact ⟨by simp, hy.2⟩
    | _ :: _ :: _, _, _ => simp at h1
termination_by br.length
decreasing_by rw [nextR_len]; omega
/-! ### Whom one beats -/
theorem beatTo_mem {xs : List Int} {a x : Int} {br : List Int} : ∀ {k : Nat}, x ∈ beatTo xs a br k → ∃ i, i < k ∧ br.getD i (-1) = a ∧ br.getD (mate i) (-1) = x ∧ 0 ≤ x ∧ 0 ≤ a ∧ bts xs a.toNat x.toNat := by
  intro k
  induction k with
  | zero => intro h; cases h
  | succ k ih =>
    intro h
    simp only [beatTo] at h
    rcases List.mem_append.1 h with h | h
    · obtain ⟨i, hi, r⟩ := ih h; exact ⟨i, by omega, r⟩
    · unfold beatAt at h
      split at h
      · rename_i hc
        have : x = br.getD (mate k) (-1) := by simpa using h
        subst this
        exact ⟨k, by omega, hc.1, rfl, hc.2.1, hc.2.2.1, hc.2.2.2⟩
      · cases h
theorem beaten_facts {s : Int} {xs : List Int} {a x : Int} {br : List Int} (hk : brk s br) (h : x ∈ beaten xs a br) : 0 ≤ a ∧ 0 ≤ x ∧ a ∈ br ∧ x ∈ br ∧ bts xs a.toNat x.toNat ∧ ∀ r, 1 ≤ r → 1 ≤ mtg xs a x r br := by
  by_cases h1 : 1 < br.length
  · rw [beaten_step h1] at h
    rcases List.mem_append.1 h with h | h
    · obtain ⟨i, hi, e1, e2, h0, ha, hb⟩ := beatTo_mem h
      have hm : meets2 br a x := ⟨i, hi, e1, e2⟩
      have hmi := mate_in hk h1 hi
      refine ⟨ha, h0, by rw [← e1]; exact getD_mem hi, by rw [← e2]; exact getD_mem hmi, hb, fun r hr => ?_⟩
      rw [mtg_hit hk h1 ha h0 xs r hm]; exact hr
    · obtain ⟨k1, k2, k3, k4, k5, k6⟩ := beaten_facts (brk_next xs hk h1) h
      refine ⟨k1, k2, nextR_mem xs br a k3, nextR_mem xs br x k4, k5, fun r hr => ?_⟩
      by_cases hm : meets2 br a x
      · rw [mtg_hit hk h1 k1 k2 xs r hm]; exact hr
      · rw [mtg_miss hk h1 k1 k2 xs r hm]; exact k6 (r + 1) (by omega)
  · rw [beaten_end h1] at h; cases h
termination_by br.length
decreasing_by rw [nextR_len]; omega
theorem meets2_symm {s : Int} {br : List Int} (hk : brk s br) (h1 : 1 < br.length) {a b : Int} (h : meets2 br a b) : meets2 br b a := by
  obtain ⟨i, hi, e1, e2⟩ := h
  have hl := brk_len hk
  refine ⟨mate i, mate_in hk h1 hi, e2, ?_⟩
  show br.getD (mate (mate i)) (-1) = a
  rw [(mate_lt i (by omega)).2.2.2.1]; exact e1
theorem mtg_symm {s : Int} (xs : List Int) {a b : Int} (ha : 0 ≤ a) (hb : 0 ≤ b) {br : List Int} (hk : brk s br) (r : Nat) : mtg xs a b r br = mtg xs b a r br := by
  by_cases h1 : 1 < br.length
  · by_cases hm : meets2 br a b
    · rw [mtg_hit hk h1 ha hb xs r hm, mtg_hit hk h1 hb ha xs r (meets2_symm hk h1 hm)]
    · rw [mtg_miss hk h1 ha hb xs r hm, mtg_miss hk h1 hb ha xs r (fun h => hm (meets2_symm hk h1 h))]
      exact mtg_symm xs ha hb (brk_next xs hk h1) (r + 1)
  · rw [mtg_end h1, mtg_end h1]
termination_by br.length
decreasing_by rw [nextR_len]; omega
theorem beaten_rounds {s : Int} (xs : List Int) (a : Int) : ∀ (r : Nat) {br : List Int}, brk s br → br.length = 2 ^ r → (beaten xs a br).length ≤ r := by
  intro r
  induction r with
  | zero => intro br _ hl; rw [beaten_end (by omega)]; simp
  | succ r ih =>
    intro br hk hl
    have hp := Nat.two_pow_pos r
    have h1 : 1 < br.length := by rw [hl, Nat.pow_succ]; omega
    rw [beaten_step h1, List.length_append]
    have h2 := ih (brk_next xs hk h1) (by rw [nextR_len, hl, Nat.pow_succ]; omega)
    have h3 : (beatTo xs a br br.length).length ≤ 1 := by
      by_cases hm : 0 ≤ a ∧ a ∈ br
      · rw [beatTo_spot hk.2.2.2 hm.1 hm.2]; exact beatAt_len xs a br _
      · rw [beatTo_not hm]; simp
    omega
/-! ### How many games there are -/
def pN (x : Int) : Nat := if 0 ≤ x then 1 else 0
def hN (xs : List Int) (a b : Int) : Nat := if 0 ≤ b ∧ 0 ≤ a ∧ bts xs a.toNat b.toNat then 1 else 0
theorem plrs_sum (l : List Int) : (plrs l).length = (l.map pN).sum := by
  induction l with
  | nil => rfl
  | cons x r ih =>
    rw [plrs_cons, List.length_append, ih, List.map_cons, List.sum_cons]
    unfold pN; split <;> simp
theorem pair_sum {s : Int} {xs : List Int} (ht : tourOk s xs) {a b : Int} (ha : a < s) (hb : b < s) (hne : 0 ≤ a → 0 ≤ b → a ≠ b) : hN xs a b + hN xs b a + pN (game xs a b) = pN a + pN b := by
  have hs := tourOk_size ht
  have pp : ∀ {x : Int}, 0 ≤ x → pN x = 1 := fun h => if_pos h
  have pn : ∀ {x : Int}, ¬ 0 ≤ x → pN x = 0 := fun h => if_neg h
  by_cases h0 : 0 ≤ a
  · by_cases h1 : 0 ≤ b
    · have h2 := bts_anti ht (a := a.toNat) (b := b.toNat) (by omega) (by omega) (by have := hne h0 h1; omega)
      by_cases h3 : bts xs a.toNat b.toNat
      · have h4 := h2.1 h3
        have e : game xs a b = a := if_neg (by
          rintro (h | h)
          · omega
          · exact h4 h.2)
        have e1 : hN xs a b = 1 := if_pos ⟨h1, h0, h3⟩
        have e2 : hN xs b a = 0 := if_neg fun h => h4 h.2.2
        rw [e, e1, e2, pp h0, pp h1]
      · have h4 : bts xs b.toNat a.toNat := Decidable.byContradiction fun h => h3 (h2.2 h)
        have e : game xs a b = b := if_pos (.inr ⟨h1, h4⟩)
        have e1 : hN xs a b = 0 := if_neg fun h => h3 h.2.2
        have e2 : hN xs b a = 1 := if_pos ⟨h0, h1, h4⟩
        rw [e, e1, e2, pp h0, pp h1]
    · have e : game xs a b = a := if_neg (by rintro (h | h) <;> omega)
      have e1 : hN xs a b = 0 := if_neg fun h => h1 h.1
      have e2 : hN xs b a = 0 := if_neg fun h => h1 h.2.1
      rw [e, e1, e2, pp h0, pn h1]
  · have e : game xs a b = b := if_pos (.inl (by omega))
    have e1 : hN xs a b = 0 := if_neg fun h => h0 h.2.1
    have e2 : hN xs b a = 0 := if_neg fun h => h0 h.1
    rw [e, e1, e2, pn h0]
theorem map_getD_neg (l : List Int) : (List.range l.length).map (fun a => l.getD a (-1)) = l := by
  refine List.ext_getElem? fun i => ?_
  rw [List.getElem?_map]
  by_cases hi : i < l.length
  · simp [hi]
  · rw [List.getElem?_eq_none (by simp; omega), List.getElem?_eq_none (by omega)]; rfl
theorem beatAt_hN (xs : List Int) (br : List Int) (i : Nat) : (beatAt xs (br.getD i (-1)) br i).length = hN xs (br.getD i (-1)) (br.getD (mate i) (-1)) := by
  unfold beatAt hN
  by_cases h : 0 ≤ br.getD (mate i) (-1) ∧ 0 ≤ br.getD i (-1) ∧ bts xs (br.getD i (-1)).toNat (br.getD (mate i) (-1)).toNat
  · rw [if_pos ⟨rfl, h⟩, if_pos h]; rfl
  · rw [if_neg (fun h2 => h h2.2), if_neg h]; rfl
theorem beatTo_sum {s : Int} (xs : List Int) {br : List Int} (hk : brk s br) : (br.map fun x => (beatTo xs x br br.length).length).sum = ((List.range br.length).map fun i => hN xs (br.getD i (-1)) (br.getD (mate i) (-1))).sum := by
  have e : (br.map fun x => (beatTo xs x br br.length).length) = (List.range br.length).map fun i => hN xs (br.getD i (-1)) (br.getD (mate i) (-1)) := by
    conv => lhs; arg 2; rw [← map_getD_neg br]
    rw [List.map_map]
    refine List.map_congr_left fun i hi => ?_
    have hi := List.mem_range.1 hi
    show (beatTo xs (br.getD i (-1)) br br.length).length = _
    by_cases h0 : 0 ≤ br.getD i (-1)
    · have hm := getD_mem hi
      rw [beatTo_spot hk.2.2.2 h0 hm]
      have hi' : br[i]? = some (br.getD i (-1)) := by rw [List.getD, List.getElem?_eq_getElem hi]; rfl
      rw [plrs_uniq hk.2.2.2 h0 (spot_get hm) hi', beatAt_hN]
    · rw [beatTo_not (fun h => h0 h.1)]
      unfold hN; rw [if_neg (fun h => h0 h.2.1)]; rfl
  rw [e]
theorem pair_ne {br : List Int} (hn : (plrs br).Nodup) {i j : Nat} (hij : i ≠ j) {a b : Int} (hi : br[i]? = some a) (hj : br[j]? = some b) : 0 ≤ a → 0 ≤ b → a ≠ b := fun ha _ e => by
  subst e
  exact hij (plrs_uniq hn ha hi hj)
theorem games_round {s : Int} {xs br : List Int} (ht : tourOk s xs) (hk : brk s br) (h1 : 1 < br.length) : (br.map fun x => (beatTo xs x br br.length).length).sum + (plrs (nextR xs br)).length = (plrs br).length := by
  rw [beatTo_sum xs hk, plrs_sum, plrs_sum]
  have hb : ∀ x ∈ br, x < s := fun x hx => by have := hk.2.1 x hx; omega
  have hn := hk.2.2.2
  have hl := brk_two hk h1
  have pr : ∀ (i : Nat) (a b : Int), br[i]? = some a → br[i + 1]? = some b → hN xs a b + hN xs b a + pN (game xs a b) = pN a + pN b := fun i a b hi hj =>
    pair_sum ht (hb a (List.mem_of_getElem? hi)) (hb b (List.mem_of_getElem? hj)) (pair_ne hn (by omega) hi hj)
  have m0 : mate 0 = 1 := by decide
  have m1 : mate 1 = 0 := by decide
  have m2 : mate 2 = 3 := by decide
  have m3 : mate 3 = 2 := by decide
  have m4 : mate 4 = 5 := by decide
  have m5 : mate 5 = 4 := by decide
  have m6 : mate 6 = 7 := by decide
  have m7 : mate 7 = 6 := by decide
  match br, hl, pr with
  | [a, b], _, pr =>
    have p0 := pr 0 a b rfl rfl
    simp only [List.length_cons, List.length_nil, nextR, List.range_succ, List.range_zero, List.map_append, List.map_cons, List.map_nil, List.sum_append, List.sum_cons, List.sum_nil, List.nil_append, List.getD_cons_zero, List.getD_cons_succ, m0, m1]
    omega
  | [a, b, c, d], _, pr =>
    have p0 := pr 0 a b rfl rfl
    have p1 := pr 2 c d rfl rfl
    simp only [List.length_cons, List.length_nil, nextR, List.range_succ, List.range_zero, List.map_append, List.map_cons, List.map_nil, List.sum_append, List.sum_cons, List.sum_nil, List.nil_append, List.getD_cons_zero, List.getD_cons_succ, m0, m1, m2, m3]
    omega
  | [a, b, c, d, e, f, g, h], _, pr =>
    have p0 := pr 0 a b rfl rfl
    have p1 := pr 2 c d rfl rfl
    have p2 := pr 4 e f rfl rfl
    have p3 := pr 6 g h rfl rfl
    simp only [List.length_cons, List.length_nil, nextR, List.range_succ, List.range_zero, List.map_append, List.map_cons, List.map_nil, List.sum_append, List.sum_cons, List.sum_nil, List.nil_append, List.getD_cons_zero, List.getD_cons_succ, m0, m1, m2, m3, m4, m5, m6, m7]
    omega
theorem sum_plrs {f : Int → Nat} (h0 : ∀ x, x < 0 → f x = 0) (l : List Int) : (l.map f).sum = ((plrs l).map f).sum := by
  induction l with
  | nil => rfl
  | cons x r ih =>
    rw [plrs_cons, List.map_append, List.sum_append, List.map_cons, List.sum_cons, ih]
    by_cases hx : 0 ≤ x
    · simp [hx]
    · rw [h0 x (by omega)]; simp [hx]
theorem sum_sub {f : Int → Nat} {l l' : List Int} (hs : l'.Sublist l) (hn : l.Nodup) (h0 : ∀ x ∈ l, x ∉ l' → f x = 0) : (l.map f).sum = (l'.map f).sum := by
  induction hs with
  | slnil => rfl
  | cons a hs ih =>
    rename_i l1 l2
    rw [List.nodup_cons] at hn
    rw [List.map_cons, List.sum_cons, ih hn.2 (fun x hx hx' => h0 x (by simp [hx]) hx'), h0 a (by simp) (fun h => hn.1 (hs.subset h)), Nat.zero_add]
  | cons_cons a hs ih =>
    rename_i l1 l2
    rw [List.nodup_cons] at hn
    rw [List.map_cons, List.sum_cons, List.map_cons, List.sum_cons, ih hn.2 fun x hx hx' => h0 x (by simp [hx]) (by
      intro h
      rcases List.mem_cons.1 h with e | e
      · subst e; exact hn.1 hx
      · exact hx' e)]
/-- All games but the winner's own are lost by somebody: one player less. -/
theorem games_all {s : Int} {xs br : List Int} (ht : tourOk s xs) (hk : brk s br) : (br.map fun x => (beaten xs x br).length).sum + 1 = (plrs br).length := by
  by_cases h1 : 1 < br.length
  · have ih := games_all ht (brk_next xs hk h1)
    have hr := games_round ht hk h1
    have e1 : (br.map fun x => (beaten xs x br).length) = br.map fun x => (beatTo xs x br br.length).length + (beaten xs x (nextR xs br)).length := List.map_congr_left fun x _ => by rw [beaten_step h1, List.length_append]
    have e2 : (br.map fun x => (beatTo xs x br br.length).length + (beaten xs x (nextR xs br)).length).sum = (br.map fun x => (beatTo xs x br br.length).length).sum + (br.map fun x => (beaten xs x (nextR xs br)).length).sum := by
      generalize br.length = L
      generalize nextR xs br = N
      have key : ∀ l : List Int, (l.map fun x => (beatTo xs x br L).length + (beaten xs x N).length).sum = (l.map fun x => (beatTo xs x br L).length).sum + (l.map fun x => (beaten xs x N).length).sum := by
        intro l
        induction l with
        | nil => rfl
        | cons y r ih => simp only [List.map_cons, List.sum_cons, ih]; omega
      exact key br
    have h0 : ∀ x, x < 0 → (beaten xs x (nextR xs br)).length = 0 := fun x hx => by rw [beaten_out xs x _ (fun h => by omega)]; rfl
    have e3 : (br.map fun x => (beaten xs x (nextR xs br)).length).sum = ((nextR xs br).map fun x => (beaten xs x (nextR xs br)).length).sum := by
      rw [sum_plrs h0, sum_plrs h0 (nextR xs br)]
      exact sum_sub (nextR_sub xs br) hk.2.2.2 fun x hx hx' => by
        rw [beaten_out xs x _ (fun h => hx' (mem_plrs.2 ⟨h.2, h.1⟩))]; rfl
    rw [e1, e2, e3]
    omega
  · have hl := brk_len hk
    match br, hl, hk, h1 with
    | [x], _, hk, h1 =>
      have hw := winB_mem xs hk
      rw [winner_end h1] at hw
      have hx : 0 ≤ x := hw.2
      simp [beaten_end h1, plrs, hx]
    | _ :: _ :: _, _, _, h1 => simp at h1
termination_by br.length
decreasing_by rw [nextR_len]; omega
/-! ### Round by round -/
def itR (xs br : List Int) : Nat → List Int
  | 0 => br
  | i + 1 => nextR xs (itR xs br i)
theorem itR_facts {s : Int} {xs br : List Int} (hk : brk s br) {r : Nat} (hl : br.length = 2 ^ r) : ∀ i, i ≤ r → brk s (itR xs br i) ∧ (itR xs br i).length = 2 ^ (r - i) ∧ winner xs (itR xs br i) = winner xs br := by
  intro i
  induction i with
  | zero => intro _; exact ⟨hk, hl, rfl⟩
  | succ i ih =>
    intro hi
    obtain ⟨h1, h2, h3⟩ := ih (by omega)
    have hp : 2 ^ (r - i) = 2 * 2 ^ (r - (i + 1)) := by
      rw [show r - i = (r - (i + 1)) + 1 by omega, Nat.pow_succ]; omega
    have hpos := Nat.two_pow_pos (r - (i + 1))
    have h4 : 1 < (itR xs br i).length := by omega
    exact ⟨brk_next xs h1 h4, by show (nextR xs (itR xs br i)).length = _; rw [nextR_len]; omega, by show winner xs (nextR xs (itR xs br i)) = _; rw [← winner_step h4]; exact h3⟩
theorem brk_pow {s : Int} {br : List Int} (hk : brk s br) : ∃ r : Nat, br.length = 2 ^ r ∧ r ≤ 3 := by
  have := hk.1
  unfold brkSize at this
  rcases this with h | h | h | h
  · exact ⟨0, by omega, by omega⟩
  · exact ⟨1, by omega, by omega⟩
  · exact ⟨2, by omega, by omega⟩
  · exact ⟨3, by omega, by omega⟩

end Go.Proofs.YtbaljgdepicigaaDoor
