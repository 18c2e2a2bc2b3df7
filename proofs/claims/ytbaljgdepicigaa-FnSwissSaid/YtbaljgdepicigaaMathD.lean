/-
  Plain lemmas on days of games: no program.
-/
import Derived.Test.YtbaljgdepicigaaBase
import Derived.Test.YtbaljgdepicigaaMathA
namespace Go.Proofs.Ytbaljgdepicigaa
set_option linter.unusedVariables false

/-- The first place at which p holds, or -1. -/
def idxF {α : Type} (p : α → Bool) : List α → Int
  | [] => -1
  | x :: r => if p x then 0 else if idxF p r < 0 then -1 else idxF p r + 1
theorem idxF_hit {α : Type} {p : α → Bool} {xs : List α} {k : Nat} {x : α} (hn : ∀ y ∈ xs.take k, p y = false) (hk : xs[k]? = some x) (hx : p x = true) : idxF p xs = k := by
  induction xs generalizing k with
  | nil => simp at hk
  | cons y r ih =>
    cases k with
    | zero => simp at hk; subst hk; simp [idxF, hx]
    | succ k =>
      simp at hk
      have h0 := hn y (by simp)
      have := ih (k := k) (fun z hz => hn z (by simp [hz])) hk
      simp only [idxF, h0]
      rw [this]
      simp; omega
theorem idxF_miss {α : Type} {p : α → Bool} {xs : List α} (hn : ∀ y ∈ xs, p y = false) : idxF p xs = -1 := by
  induction xs with
  | nil => rfl
  | cons y r ih =>
    have h0 := hn y (by simp)
    simp only [idxF, h0]
    rw [ih (fun z hz => hn z (by simp [hz]))]; rfl
theorem idxF_bound {α : Type} (p : α → Bool) (xs : List α) : -1 ≤ idxF p xs ∧ idxF p xs < xs.length := by
  induction xs with
  | nil => simp [idxF]
  | cons x r ih =>
    simp only [idxF, List.length_cons]
    split
    · omega
    · split <;> omega
theorem idxF_ge {α : Type} {p : α → Bool} {xs : List α} : 0 ≤ idxF p xs ↔ ∃ x ∈ xs, p x = true := by
  induction xs with
  | nil => simp [idxF]
  | cons y r ih =>
    simp only [idxF]
    cases hy : p y with
    | true => simp [hy]
    | false =>
      simp only [List.mem_cons, exists_eq_or_imp, hy, Bool.false_eq_true, false_or, if_false]
      rw [← ih]
      split <;> omega

/-- A list of games: at most 18, each of a host and a guest below 6. -/
def gameOk (g : List Int) : Prop := g.length = 2 ∧ ∀ x ∈ g, 0 ≤ x ∧ x ≤ 5
instance (g : List Int) : Decidable (gameOk g) := by unfold gameOk; infer_instance
def gamesOk (rows : List (List Int)) : Prop := rows.length ≤ 18 ∧ ∀ g ∈ rows, gameOk g
instance (rows : List (List Int)) : Decidable (gamesOk rows) := by unfold gamesOk; infer_instance
theorem gameOk_two {g : List Int} (h : gameOk g) : ∃ a b : Nat, g = [(a : Int), (b : Int)] ∧ a ≤ 5 ∧ b ≤ 5 := by
  obtain ⟨hl, hx⟩ := h
  match g, hl with
  | [x, y], _ =>
    have h1 := hx x (by simp)
    have h2 := hx y (by simp)
    exact ⟨x.toNat, y.toNat, by rw [Int.toNat_of_nonneg h1.1, Int.toNat_of_nonneg h2.1], by omega, by omega⟩

/-- The greatest of numbers that are not below 0. -/
def maxL (l : List Int) : Int := l.foldl max 0
theorem foldl_max (l : List Int) (a : Int) : l.foldl max a = max a (l.foldl max 0) ∨ (0 ≤ a → l.foldl max a = max a (l.foldl max 0)) := by
  right
  induction l generalizing a with
  | nil => intro h; simp; omega
  | cons x r ih =>
    intro h
    simp only [List.foldl_cons]
    rw [ih (max a x) (by omega), ih (max 0 x) (by omega)]
    omega
theorem maxL_cons (x : Int) (r : List Int) (hx : 0 ≤ x) : maxL (x :: r) = max x (maxL r) := by
  unfold maxL
  simp only [List.foldl_cons]
  rw [show max 0 x = x by omega]
  rcases foldl_max r x with h | h
  · exact h
  · exact h hx
theorem maxL_ge (l : List Int) : 0 ≤ maxL l := by
  unfold maxL
  have key : ∀ (l : List Int) (a : Int), 0 ≤ a → 0 ≤ l.foldl max a := by
    intro l
    induction l with
    | nil => intro a h; exact h
    | cons x r ih => intro a h; exact ih _ (by omega)
  exact key l 0 (Int.le_refl _)
theorem maxL_set {l : List Int} {i : Nat} {v u : Int} (hp : ∀ x ∈ l, 0 ≤ x) (h : l[i]? = some v) (hu : v ≤ u) : maxL (l.set i u) = max (maxL l) u := by
  induction l generalizing i with
  | nil => simp at h
  | cons x r ih =>
    have hx := hp x (by simp)
    have hr : ∀ y ∈ r, 0 ≤ y := fun y hy => hp y (by simp [hy])
    cases i with
    | zero =>
      simp at h; subst h
      rw [List.set_cons_zero, maxL_cons _ _ hx, maxL_cons _ _ (by omega)]
      omega
    | succ i =>
      simp at h
      rw [List.set_cons_succ, maxL_cons _ _ hx, maxL_cons _ _ hx, ih hr h]
      omega
theorem maxL_le {l : List Int} {m : Int} (hm : 0 ≤ m) (h : ∀ x ∈ l, x ≤ m) : maxL l ≤ m := by
  unfold maxL
  have key : ∀ (l : List Int) (a : Int), a ≤ m → (∀ x ∈ l, x ≤ m) → l.foldl max a ≤ m := by
    intro l
    induction l with
    | nil => intro a h _; exact h
    | cons x r ih => intro a h h2; exact ih _ (by have := h2 x (by simp); omega) (fun y hy => h2 y (by simp [hy]))
  exact key l 0 hm h
theorem le_maxL {l : List Int} {x : Int} (h : x ∈ l) : x ≤ maxL l := by
  unfold maxL
  have mono : ∀ (l : List Int) (a : Int), a ≤ l.foldl max a := by
    intro l
    induction l with
    | nil => intro a; exact Int.le_refl _
    | cons y r ih => intro a; have := ih (max a y); simp only [List.foldl_cons]; omega
  have key : ∀ (l : List Int) (a : Int), x ∈ l → x ≤ l.foldl max a := by
    intro l
    induction l with
    | nil => intro a h; cases h
    | cons y r ih =>
      intro a h
      rcases List.mem_cons.1 h with rfl | h
      · have := mono r (max a x); simp only [List.foldl_cons]; omega
      · exact ih _ h
  exact key l 0 h

/-- How often t stands among the numbers. -/
def cntL (l : List Int) (t : Nat) : Int := ((l.countP fun x => x == (t : Int)) : Nat)
def counts (m : Nat) (l : List Int) : List Int := (List.range m).map fun (t : Nat) => cntL l t
theorem counts_len (m : Nat) (l : List Int) : (counts m l).length = m := by simp [counts]
theorem counts_get {m t : Nat} (l : List Int) (h : t < m) : (counts m l)[t]? = some (cntL l t) := by simp [counts, h]
theorem cntL_bound (l : List Int) (t : Nat) : 0 ≤ cntL l t ∧ cntL l t ≤ l.length := by
  unfold cntL
  have := List.countP_le_length (p := fun x => x == (t : Int)) (l := l)
  omega
theorem counts_nonneg (m : Nat) (l : List Int) : ∀ x ∈ counts m l, 0 ≤ x ∧ x ≤ l.length := by
  intro x hx
  simp [counts] at hx
  obtain ⟨t, _, rfl⟩ := hx
  exact cntL_bound l t
theorem counts_snoc {m t : Nat} (l : List Int) (h : t < m) : (counts m l).set t (cntL l t + 1) = counts m (l ++ [(t : Int)]) := by
  apply List.ext_getElem?
  intro j
  rw [List.getElem?_set]
  by_cases e : t = j
  · subst e
    rw [if_pos rfl, if_pos (by rw [counts_len]; exact h), counts_get _ h]
    simp [cntL, List.countP_append]
  · rw [if_neg e]
    by_cases hj : j < m
    · rw [counts_get _ hj, counts_get _ hj]
      have : ¬ (t : Int) = (j : Int) := by omega
      simp [cntL, List.countP_append, this]
    · rw [List.getElem?_eq_none (by rw [counts_len]; omega), List.getElem?_eq_none (by rw [counts_len]; omega)]
theorem counts_nil (m : Nat) : counts m [] = List.replicate m 0 := by
  apply List.ext_getElem?
  intro j
  by_cases hj : j < m
  · rw [counts_get _ hj]; simp [cntL, hj]
  · rw [List.getElem?_eq_none (by rw [counts_len]; omega), List.getElem?_eq_none (by simp; omega)]
/-- The numbers at one side of the games. -/
def side (s : Nat) (rows : List (List Int)) : List Int := rows.map fun g => g.getD s 0
theorem side_snoc (s : Nat) {rows : List (List Int)} {k : Nat} {g : List Int} (h : rows[k]? = some g) : side s (rows.take (k + 1)) = side s (rows.take k) ++ [g.getD s 0] := by
  rw [take_snoc_of h]; simp [side]
theorem side_len (s : Nat) (rows : List (List Int)) : (side s rows).length = rows.length := by simp [side]
/-- The greatest number of games of a team. -/
def busiest (rows : List (List Int)) : Int := max (maxL (counts 6 (side 0 rows))) (maxL (counts 6 (side 1 rows)))
theorem maxL_counts_snoc {m t : Nat} (l : List Int) (h : t < m) : maxL (counts m (l ++ [(t : Int)])) = max (maxL (counts m l)) (cntL l t + 1) := by
  rw [← counts_snoc l h]
  exact maxL_set (fun x hx => (counts_nonneg m l x hx).1) (counts_get l h) (by omega)
theorem busiest_snoc {rows : List (List Int)} {k a b : Nat} (h : rows[k]? = some [(a : Int), (b : Int)]) (ha : a ≤ 5) (hb : b ≤ 5) :
    busiest (rows.take (k + 1)) = max (busiest (rows.take k)) (max (cntL (side 0 (rows.take k)) a + 1) (cntL (side 1 (rows.take k)) b + 1)) := by
  unfold busiest
  rw [side_snoc 0 h, side_snoc 1 h]
  simp only [List.getD_cons_zero, List.getD_cons_succ]
  rw [maxL_counts_snoc _ (by omega), maxL_counts_snoc _ (by omega)]
  omega
theorem busiest_bound (rows : List (List Int)) : 0 ≤ busiest rows ∧ busiest rows ≤ rows.length := by
  have h1 := maxL_ge (counts 6 (side 0 rows))
  have h2 : maxL (counts 6 (side 0 rows)) ≤ rows.length := maxL_le (by omega) fun x hx => by have := (counts_nonneg 6 _ x hx).2; rwa [side_len] at this
  have h3 : maxL (counts 6 (side 1 rows)) ≤ rows.length := maxL_le (by omega) fun x hx => by have := (counts_nonneg 6 _ x hx).2; rwa [side_len] at this
  unfold busiest; omega
def busiestTeam (rows : List (List Int)) : Int := if gamesOk rows then busiest rows else -1
theorem maxL_take_snoc {l : List Int} {k : Nat} {x : Int} (hp : ∀ y ∈ l, 0 ≤ y) (h : l[k]? = some x) : maxL (l.take (k + 1)) = max (maxL (l.take k)) x := by
  rw [take_snoc_of h, maxL, List.foldl_append]
  rfl

/-- A schedule: no team of a side plays twice on a day. -/
def clash (rows : List (List Int)) (days : List Int) (i k : Nat) : Prop :=
  days.getD i 0 = days.getD k 0 ∧ ((rows.getD i []).getD 0 0 = (rows.getD k []).getD 0 0 ∨ (rows.getD i []).getD 1 0 = (rows.getD k []).getD 1 0)
instance (rows : List (List Int)) (days : List Int) (i k : Nat) : Decidable (clash rows days i k) := by unfold clash; infer_instance
def isSchedule (rows : List (List Int)) (days : List Int) : Prop :=
  gamesOk rows ∧ days.length = rows.length ∧ (∀ d ∈ days, 0 ≤ d ∧ d ≤ 17) ∧ ∀ i, i < rows.length → ∀ k, k < i → ¬ clash rows days i k
instance (rows : List (List Int)) (days : List Int) : Decidable (isSchedule rows days) := by unfold isSchedule; infer_instance
theorem gamesOk_yes {rows : List (List Int)} (h : rows.length ≤ 18) : decide (gamesOk rows) = !rows.any (fun g => !decide (gameOk g)) := by
  rw [Bool.eq_iff_iff, decide_eq_true_eq, Bool.not_eq_true', List.any_eq_false]
  constructor
  · intro hg g hm; simpa using hg.2 g hm
  · intro hg; exact ⟨h, fun g hm => by simpa using hg g hm⟩
theorem gamesOk_no {rows : List (List Int)} (h : ¬ rows.length ≤ 18) : decide (gamesOk rows) = false := by
  rw [decide_eq_false_iff_not]; exact fun hg => h hg.1
theorem clash_iff {rows : List (List Int)} {days : List Int} {i k : Nat} {di dk a b c d : Int} (hi : days[i]? = some di) (hk : days[k]? = some dk) (ri : rows[i]? = some [a, b]) (rk : rows[k]? = some [c, d]) :
    clash rows days i k ↔ di = dk ∧ (a = c ∨ b = d) := by
  simp [clash, List.getD, hi, hk, ri, rk]
/-- No clash up to i. -/
def freeTo (rows : List (List Int)) (days : List Int) (i : Nat) : Prop := ∀ j, j < i → ∀ k, k < j → ¬ clash rows days j k
theorem freeTo_succ {rows : List (List Int)} {days : List Int} {i : Nat} (h : freeTo rows days i) (h2 : ∀ k, k < i → ¬ clash rows days i k) : freeTo rows days (i + 1) := by
  intro j hj k hk
  by_cases e : j = i
  · subst e; exact h2 k hk
  · exact h j (by omega) k hk

/-- The games among the first k that are played on a day. -/
def onTo (rows : List (List Int)) (days : List Int) (day : Int) : Nat → List (List Int)
  | 0 => []
  | k + 1 => onTo rows days day k ++ if days.getD k 0 = day then [rows.getD k []] else []
def gamesOn (rows : List (List Int)) (days : List Int) (day : Int) : List (List Int) := if isSchedule rows days then onTo rows days day rows.length else []
theorem onTo_yes {rows : List (List Int)} {days : List Int} {day : Int} {k : Nat} {r : List Int} (hd : days[k]? = some day) (hr : rows[k]? = some r) : onTo rows days day (k + 1) = onTo rows days day k ++ [r] := by
  simp [onTo, List.getD, hd, hr]
theorem onTo_no {rows : List (List Int)} {days : List Int} {day d : Int} {k : Nat} (hd : days[k]? = some d) (hne : ¬ d = day) : onTo rows days day (k + 1) = onTo rows days day k := by
  simp [onTo, List.getD, hd, hne]
theorem onTo_len (rows : List (List Int)) (days : List Int) (day : Int) (k : Nat) : (onTo rows days day k).length ≤ k := by
  induction k with
  | zero => simp [onTo]
  | succ k ih =>
    simp only [onTo, List.length_append]
    split
    · simp; omega
    · simp; omega
theorem onTo_mem {rows : List (List Int)} {days : List Int} {day : Int} {k : Nat} (hk : k ≤ rows.length) : ∀ r ∈ onTo rows days day k, r ∈ rows := by
  induction k with
  | zero => simp [onTo]
  | succ k ih =>
    intro r hr
    simp only [onTo] at hr
    rcases List.mem_append.1 hr with hr | hr
    · exact ih (by omega) r hr
    · split at hr
      · simp at hr
        subst hr
        rw [List.getElem?_eq_getElem (by omega)]
        exact List.getElem_mem _
      · cases hr
theorem onTo_count {rows : List (List Int)} {days : List Int} (day : Nat) {k : Nat} (hk : k ≤ days.length) : ((onTo rows days day k).length : Int) = cntL (days.take k) day := by
  induction k with
  | zero => simp [onTo, cntL]
  | succ k ih =>
    obtain ⟨d, hd⟩ : ∃ d, days[k]? = some d := ⟨_, List.getElem?_eq_getElem (by omega)⟩
    rw [take_snoc_of hd]
    have ih := ih (by omega)
    by_cases e : d = (day : Int)
    · subst e
      have hg : days.getD k 0 = (day : Int) := by simp [List.getD, hd]
      simp only [onTo, hg, if_pos, List.length_append, List.length_singleton]
      simp [cntL, List.countP_append] at ih ⊢
      omega
    · rw [onTo_no hd e, ih]
      simp [cntL, List.countP_append, e]
theorem gamesOn_len (rows : List (List Int)) (days : List Int) (day : Int) : (gamesOn rows days day).length ≤ 18 ∧ (gamesOn rows days day).length ≤ rows.length := by
  unfold gamesOn
  split
  · rename_i h
    have := onTo_len rows days day rows.length
    have := h.1.1
    omega
  · simp
/-- The most games of a day. -/
def courts (rows : List (List Int)) (days : List Int) : Int := if isSchedule rows days then maxL (counts 18 days) else -1
theorem maxL_counts_take (m : Nat) (l : List Int) (k : Nat) (hk : k < m) : maxL ((counts m l).take (k + 1)) = max (maxL ((counts m l).take k)) (cntL l k) :=
  maxL_take_snoc (fun x hx => (counts_nonneg m l x hx).1) (counts_get l hk)
/-- The days behind a move. -/
def mayMove (rows : List (List Int)) (days : List Int) (i day : Int) : Prop := isSchedule rows days ∧ (0 ≤ i ∧ i ≤ (rows.length : Int) - 1) ∧ isSchedule rows (days.set i.toNat day)
instance (rows : List (List Int)) (days : List Int) (i day : Int) : Decidable (mayMove rows days i day) := by unfold mayMove; infer_instance
def moved (rows : List (List Int)) (days : List Int) (i day : Int) : List Int := if mayMove rows days i day then days.set i.toNat day else []
theorem moved_len (rows : List (List Int)) (days : List Int) (i day : Int) : (moved rows days i day).length ≤ days.length := by
  unfold moved; split <;> simp

end Go.Proofs.Ytbaljgdepicigaa
