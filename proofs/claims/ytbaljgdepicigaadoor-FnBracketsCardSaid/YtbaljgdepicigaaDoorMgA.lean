/-
  Several texts of plain lemmas and contracts in one.
-/
import Derived.Test.YtbaljgdepicigaaDoorBase
/-
  Plain lemmas on lists and numbers: no program.
-/
namespace Go.Proofs.YtbaljgdepicigaaDoor
set_option linter.unusedVariables false

theorem take_snoc_of {α : Type} {l : List α} {k : Nat} {x : α} (h : l[k]? = some x) : l.take (k + 1) = l.take k ++ [x] := by
  rw [List.take_add_one, h]; rfl
theorem take_len {α : Type} {l : List α} {n : Nat} (h : l.length = n) : l.take n = l := List.take_of_length_le (by omega)
theorem mem_take_of {α : Type} {l : List α} {j k : Nat} {x : α} (h : l[j]? = some x) (hj : j < k) : x ∈ l.take k :=
  List.mem_of_getElem? (i := j) (by rw [List.getElem?_take, if_pos hj]; exact h)
theorem all_of_take {α : Type} {P : α → Prop} {l : List α} {n : Nat} (hl : l.length = n) (h : ∀ x ∈ l.take n, P x) : ∀ x ∈ l, P x := by rw [take_len hl] at h; exact h

/-- The first place of v, or -1. -/
def idx : List Int → Int → Int
  | [], _ => -1
  | x :: r, v => if x = v then 0 else let k := idx r v; if k < 0 then -1 else k + 1
theorem idx_hit {xs : List Int} {v : Int} {k : Nat} (hn : ¬ v ∈ xs.take k) (hk : xs[k]? = some v) : idx xs v = k := by
  induction xs generalizing k with
  | nil => simp at hk
  | cons x r ih =>
    cases k with
    | zero => simp at hk; simp [idx, hk]
    | succ k =>
      simp at hn hk
      have := ih hn.2 hk
      simp only [idx]
      rw [if_neg (fun e => hn.1 e.symm), this]
      rw [if_neg (by omega)]; omega
theorem idx_miss {xs : List Int} {v : Int} (hn : ¬ v ∈ xs) : idx xs v = -1 := by
  induction xs with
  | nil => rfl
  | cons x r ih =>
    simp at hn
    simp only [idx]
    rw [if_neg (fun e => hn.1 e.symm), ih hn.2]; rfl
theorem idx_bound (xs : List Int) (v : Int) : -1 ≤ idx xs v ∧ idx xs v < xs.length := by
  induction xs with
  | nil => simp [idx]
  | cons x r ih =>
    simp only [idx, List.length_cons]
    split
    · omega
    · split <;> omega
theorem idx_ge {xs : List Int} {v : Int} : 0 ≤ idx xs v ↔ v ∈ xs := by
  induction xs with
  | nil => simp [idx]
  | cons x r ih =>
    simp only [idx]
    by_cases e : x = v
    · simp [e]
    · have e' : ¬ v = x := fun h => e h.symm
      simp only [e, e', if_false, List.mem_cons, false_or]
      have := idx_bound r v
      by_cases h : v ∈ r
      · have h1 := ih.2 h
        simp only [h, iff_true]
        rw [if_neg (by omega)]; omega
      · have h1 : ¬ 0 ≤ idx r v := fun h' => h (ih.1 h')
        simp only [h, iff_false]
        rw [if_pos (by omega)]; omega
theorem idx_get {xs : List Int} {v : Int} (h : 0 ≤ idx xs v) : xs[(idx xs v).toNat]? = some v := by
  induction xs with
  | nil => simp [idx] at h
  | cons x r ih =>
    simp only [idx] at h ⊢
    by_cases e : x = v
    · simp [e]
    · simp only [e, if_false] at h ⊢
      by_cases h' : idx r v < 0
      · rw [if_pos h'] at h; omega
      · rw [if_neg h']
        have := ih (by omega)
        rw [show (idx r v + 1).toNat = (idx r v).toNat + 1 by omega]
        simpa using this
theorem mem_take_succ {xs : List Int} {v x : Int} {k : Nat} (hx : xs[k]? = some x) (hn : ¬ v ∈ xs.take k) (hne : v ≠ x) : ¬ v ∈ xs.take (k + 1) := by
  rw [take_snoc_of hx]; simp [hn, hne]

/-- A list of each number from 0 up to its length, once. -/
def isOrder (xs : List Int) : Prop := (∀ x ∈ xs, 0 ≤ x ∧ x < xs.length) ∧ xs.Nodup
instance (xs : List Int) : Decidable (isOrder xs) := by unfold isOrder; infer_instance
theorem nodup_snoc {xs : List Int} {k : Nat} {x : Int} (hx : xs[k]? = some x) : (xs.take (k + 1)).Nodup ↔ (xs.take k).Nodup ∧ ¬ x ∈ xs.take k := by
  rw [take_snoc_of hx, List.nodup_append]
  simp
  intro _
  constructor
  · intro h hx; exact h x hx rfl
  · intro h y hy e; exact h (e ▸ hy)
theorem nodup_take {xs : List Int} {k : Nat} (h : xs.Nodup) : (xs.take k).Nodup := h.sublist (List.take_sublist k xs)
theorem set_fill {α : Type} {l : List α} {n k : Nat} {x d : α} (hl : l.length = n) (hx : l[k]? = some x) :
    (l.take k ++ List.replicate (n - k) d).set k x = l.take (k + 1) ++ List.replicate (n - (k + 1)) d := by
  have hk : k < l.length := (List.getElem?_eq_some_iff.1 hx).1
  have hlk : (l.take k).length = k := by simp; omega
  rw [List.set_append, if_neg (by omega), hlk, Nat.sub_self, take_snoc_of hx, show n - k = (n - (k + 1)) + 1 by omega, List.replicate_succ, List.set_cons_zero]
  simp
theorem idx_le {xs : List Int} {v : Int} (hn : xs.length ≤ 8) : -1 ≤ idx xs v ∧ idx xs v ≤ 8 := by
  have := idx_bound xs v; omega
/-- How many y in ys stand before x in b. -/
def invRow (b : List Int) (x : Int) (ys : List Int) : Nat := ys.countP fun y => decide (idx b y < idx b x)
theorem invRow_snoc (b : List Int) (x : Int) (ys : List Int) (k : Nat) {y : Int} (h : ys[k]? = some y) : invRow b x (ys.take (k + 1)) = invRow b x (ys.take k) + if idx b y < idx b x then 1 else 0 := by
  rw [take_snoc_of h, invRow, List.countP_append]
  by_cases hh : idx b y < idx b x <;> simp [invRow, hh]
theorem invRow_le (b : List Int) (x : Int) (ys : List Int) : invRow b x ys ≤ ys.length := List.countP_le_length
/-- The pairs of the first k of a with those behind them that stand the other way round in b. -/
def invTo (a b : List Int) : Nat → Nat
  | 0 => 0
  | k + 1 => invTo a b k + invRow b (a.getD k 0) (a.drop (k + 1))
theorem invTo_le (a b : List Int) (k : Nat) : invTo a b k ≤ k * a.length := by
  induction k with
  | zero => simp [invTo]
  | succ k ih =>
    have := invRow_le b (a.getD k 0) (a.drop (k + 1))
    simp only [List.length_drop] at this
    simp only [invTo, Nat.succ_mul]
    omega
theorem mul_8 {k n : Nat} (h1 : k ≤ 8) (h2 : n ≤ 8) : k * n ≤ 64 := Nat.le_trans (Nat.mul_le_mul h1 h2) (by omega)

end Go.Proofs.YtbaljgdepicigaaDoor
/-
  Plain lemmas on days of games: no program.
-/
namespace Go.Proofs.YtbaljgdepicigaaDoor
set_option linter.unusedVariables false

/-- The first place at which p holds, or -1. -/
def idxF {α : Type} (p : α → Bool) : List α → Int
  | [] => -1
  | x :: r => if p x then 0 else if idxF p r < 0 then -1 else idxF p r + 1
theorem idxF_hit {α : Type} {p : α → Bool} {xs : List α} {k : Nat} {x : α} (hn : ∀ y ∈ xs.take k, p y = false) (hk : xs[k]? = some x) (hx : p x = true) : idxF p xs = k := by
  induction xs generalizing k with
  | nil => simp at hk
  | cons y r ih =>
    cases k with
    | zero => simp at hk; subst hk; simp [idxF, hx]
    | succ k =>
      simp at hk
      have h0 := hn y (by simp)
      have := ih (k := k) (fun z hz => hn z (by simp [hz])) hk
      simp only [idxF, h0]
      rw [this]
      simp; omega
theorem idxF_miss {α : Type} {p : α → Bool} {xs : List α} (hn : ∀ y ∈ xs, p y = false) : idxF p xs = -1 := by
  induction xs with
  | nil => rfl
  | cons y r ih =>
    have h0 := hn y (by simp)
    simp only [idxF, h0]
    rw [ih (fun z hz => hn z (by simp [hz]))]; rfl
theorem idxF_bound {α : Type} (p : α → Bool) (xs : List α) : -1 ≤ idxF p xs ∧ idxF p xs < xs.length := by
  induction xs with
  | nil => simp [idxF]
  | cons x r ih =>
    simp only [idxF, List.length_cons]
    split
    · omega
    · split <;> omega
theorem idxF_ge {α : Type} {p : α → Bool} {xs : List α} : 0 ≤ idxF p xs ↔ ∃ x ∈ xs, p x = true := by
  induction xs with
  | nil => simp [idxF]
  | cons y r ih =>
    simp only [idxF]
    cases hy : p y with
    | true => simp [hy]
    | false =>
      simp only [List.mem_cons, exists_eq_or_imp, hy, Bool.false_eq_true, false_or, if_false]
      rw [← ih]
      split <;> omega

/-- A list of games: at most 18, each of a host and a guest below 6. -/
def gameOk (g : List Int) : Prop := g.length = 2 ∧ ∀ x ∈ g, 0 ≤ x ∧ x ≤ 5
instance (g : List Int) : Decidable (gameOk g) := by unfold gameOk; infer_instance
def gamesOk (rows : List (List Int)) : Prop := rows.length ≤ 18 ∧ ∀ g ∈ rows, gameOk g
instance (rows : List (List Int)) : Decidable (gamesOk rows) := by unfold gamesOk; infer_instance
theorem gameOk_two {g : List Int} (h : gameOk g) : ∃ a b : Nat, g = [(a : Int), (b : Int)] ∧ a ≤ 5 ∧ b ≤ 5 := by
  obtain ⟨hl, hx⟩ := h
  match g, hl with
  | [x, y], _ =>
    have h1 := hx x (by simp)
    have h2 := hx y (by simp)
    exact ⟨x.toNat, y.toNat, by rw [Int.toNat_of_nonneg h1.1, Int.toNat_of_nonneg h2.1], by omega, by omega⟩

/-- The greatest of numbers that are not below 0. -/
def maxL (l : List Int) : Int := l.foldl max 0
theorem foldl_max (l : List Int) (a : Int) : l.foldl max a = max a (l.foldl max 0) ∨ (0 ≤ a → l.foldl max a = max a (l.foldl max 0)) := by
  right
  induction l generalizing a with
  | nil => intro h; simp; omega
  | cons x r ih =>
    intro h
    simp only [List.foldl_cons]
    rw [ih (max a x) (by omega), ih (max 0 x) (by omega)]
    omega
theorem maxL_cons (x : Int) (r : List Int) (hx : 0 ≤ x) : maxL (x :: r) = max x (maxL r) := by
  unfold maxL
  simp only [List.foldl_cons]
  rw [show max 0 x = x by omega]
  rcases foldl_max r x with h | h
  · exact h
  · exact h hx
theorem maxL_ge (l : List Int) : 0 ≤ maxL l := by
  unfold maxL
  have key : ∀ (l : List Int) (a : Int), 0 ≤ a → 0 ≤ l.foldl max a := by
    intro l
    induction l with
    | nil => intro a h; exact h
    | cons x r ih => intro a h; exact ih _ (by omega)
  exact key l 0 (Int.le_refl _)
theorem maxL_set {l : List Int} {i : Nat} {v u : Int} (hp : ∀ x ∈ l, 0 ≤ x) (h : l[i]? = some v) (hu : v ≤ u) : maxL (l.set i u) = max (maxL l) u := by
  induction l generalizing i with
  | nil => simp at h
  | cons x r ih =>
    have hx := hp x (by simp)
    have hr : ∀ y ∈ r, 0 ≤ y := fun y hy => hp y (by simp [hy])
    cases i with
    | zero =>
      simp at h; subst h
      rw [List.set_cons_zero, maxL_cons _ _ hx, maxL_cons _ _ (by omega)]
      omega
    | succ i =>
      simp at h
      rw [List.set_cons_succ, maxL_cons _ _ hx, maxL_cons _ _ hx, ih hr h]
      omega
theorem maxL_le {l : List Int} {m : Int} (hm : 0 ≤ m) (h : ∀ x ∈ l, x ≤ m) : maxL l ≤ m := by
  unfold maxL
  have key : ∀ (l : List Int) (a : Int), a ≤ m → (∀ x ∈ l, x ≤ m) → l.foldl max a ≤ m := by
    intro l
    induction l with
    | nil => intro a h _; exact h
    | cons x r ih => intro a h h2; exact ih _ (by have := h2 x (by simp); omega) (fun y hy => h2 y (by simp [hy]))
  exact key l 0 hm h
theorem le_maxL {l : List Int} {x : Int} (h : x ∈ l) : x ≤ maxL l := by
  unfold maxL
  have mono : ∀ (l : List Int) (a : Int), a ≤ l.foldl max a := by
    intro l
    induction l with
    | nil => intro a; exact Int.le_refl _
    | cons y r ih => intro a; have := ih (max a y); simp only [List.foldl_cons]; omega
  have key : ∀ (l : List Int) (a : Int), x ∈ l → x ≤ l.foldl max a := by
    intro l
    induction l with
    | nil => intro a h; cases h
    | cons y r ih =>
      intro a h
      rcases List.mem_cons.1 h with rfl | h
      · have := mono r (max a x); simp only [List.foldl_cons]; omega
      · exact ih _ h
  exact key l 0 h

/-- How often t stands among the numbers. -/
def cntL (l : List Int) (t : Nat) : Int := ((l.countP fun x => x == (t : Int)) : Nat)
def counts (m : Nat) (l : List Int) : List Int := (List.range m).map fun (t : Nat) => cntL l t
theorem counts_len (m : Nat) (l : List Int) : (counts m l).length = m := by simp [counts]
theorem counts_get {m t : Nat} (l : List Int) (h : t < m) : (counts m l)[t]? = some (cntL l t) := by simp [counts, h]
theorem cntL_bound (l : List Int) (t : Nat) : 0 ≤ cntL l t ∧ cntL l t ≤ l.length := by
  unfold cntL
  have := List.countP_le_length (p := fun x => x == (t : Int)) (l := l)
  omega
theorem counts_nonneg (m : Nat) (l : List Int) : ∀ x ∈ counts m l, 0 ≤ x ∧ x ≤ l.length := by
  intro x hx
  simp [counts] at hx
  obtain ⟨t, _, rfl⟩ := hx
  exact cntL_bound l t
theorem counts_snoc {m t : Nat} (l : List Int) (h : t < m) : (counts m l).set t (cntL l t + 1) = counts m (l ++ [(t : Int)]) := by
  apply List.ext_getElem?
  intro j
  rw [List.getElem?_set]
  by_cases e : t = j
  · subst e
    rw [if_pos rfl, if_pos (by rw [counts_len]; exact h), counts_get _ h]
    simp [cntL, List.countP_append]
  · rw [if_neg e]
    by_cases hj : j < m
    · rw [counts_get _ hj, counts_get _ hj]
      have : ¬ (t : Int) = (j : Int) := by omega
      simp [cntL, List.countP_append, this]
    · rw [List.getElem?_eq_none (by rw [counts_len]; omega), List.getElem?_eq_none (by rw [counts_len]; omega)]
theorem counts_nil (m : Nat) : counts m [] = List.replicate m 0 := by
  apply List.ext_getElem?
  intro j
  by_cases hj : j < m
  · rw [counts_get _ hj]; simp [cntL, hj]
  · rw [List.getElem?_eq_none (by rw [counts_len]; omega), List.getElem?_eq_none (by simp; omega)]
/-- The numbers at one side of the games. -/
def side (s : Nat) (rows : List (List Int)) : List Int := rows.map fun g => g.getD s 0
theorem side_snoc (s : Nat) {rows : List (List Int)} {k : Nat} {g : List Int} (h : rows[k]? = some g) : side s (rows.take (k + 1)) = side s (rows.take k) ++ [g.getD s 0] := by
  rw [take_snoc_of h]; simp [side]
theorem side_len (s : Nat) (rows : List (List Int)) : (side s rows).length = rows.length := by simp [side]
/-- The greatest number of games of a team. -/
def busiest (rows : List (List Int)) : Int := max (maxL (counts 6 (side 0 rows))) (maxL (counts 6 (side 1 rows)))
theorem maxL_counts_snoc {m t : Nat} (l : List Int) (h : t < m) : maxL (counts m (l ++ [(t : Int)])) = max (maxL (counts m l)) (cntL l t + 1) := by
  rw [← counts_snoc l h]
  exact maxL_set (fun x hx => (counts_nonneg m l x hx).1) (counts_get l h) (by omega)
theorem busiest_snoc {rows : List (List Int)} {k a b : Nat} (h : rows[k]? = some [(a : Int), (b : Int)]) (ha : a ≤ 5) (hb : b ≤ 5) :
    busiest (rows.take (k + 1)) = max (busiest (rows.take k)) (max (cntL (side 0 (rows.take k)) a + 1) (cntL (side 1 (rows.take k)) b + 1)) := by
  unfold busiest
  rw [side_snoc 0 h, side_snoc 1 h]
  simp only [List.getD_cons_zero, List.getD_cons_succ]
  rw [maxL_counts_snoc _ (by omega), maxL_counts_snoc _ (by omega)]
  omega
theorem busiest_bound (rows : List (List Int)) : 0 ≤ busiest rows ∧ busiest rows ≤ rows.length := by
  have h1 := maxL_ge (counts 6 (side 0 rows))
  have h2 : maxL (counts 6 (side 0 rows)) ≤ rows.length := maxL_le (by omega) fun x hx => by have := (counts_nonneg 6 _ x hx).2; rwa [side_len] at this
  have h3 : maxL (counts 6 (side 1 rows)) ≤ rows.length := maxL_le (by omega) fun x hx => by have := (counts_nonneg 6 _ x hx).2; rwa [side_len] at this
  unfold busiest; omega
def busiestTeam (rows : List (List Int)) : Int := if gamesOk rows then busiest rows else -1
theorem maxL_take_snoc {l : List Int} {k : Nat} {x : Int} (hp : ∀ y ∈ l, 0 ≤ y) (h : l[k]? = some x) : maxL (l.take (k + 1)) = max (maxL (l.take k)) x := by
  rw [take_snoc_of h, maxL, List.foldl_append]
  rfl

/-- A schedule: no team of a side plays twice on a day. -/
def clash (rows : List (List Int)) (days : List Int) (i k : Nat) : Prop :=
  days.getD i 0 = days.getD k 0 ∧ ((rows.getD i []).getD 0 0 = (rows.getD k []).getD 0 0 ∨ (rows.getD i []).getD 1 0 = (rows.getD k []).getD 1 0)
instance (rows : List (List Int)) (days : List Int) (i k : Nat) : Decidable (clash rows days i k) := by unfold clash; infer_instance
def isSchedule (rows : List (List Int)) (days : List Int) : Prop :=
  gamesOk rows ∧ days.length = rows.length ∧ (∀ d ∈ days, 0 ≤ d ∧ d ≤ 17) ∧ ∀ i, i < rows.length → ∀ k, k < i → ¬ clash rows days i k
instance (rows : List (List Int)) (days : List Int) : Decidable (isSchedule rows days) := by unfold isSchedule; infer_instance
theorem gamesOk_yes {rows : List (List Int)} (h : rows.length ≤ 18) : decide (gamesOk rows) = !rows.any (fun g => !decide (gameOk g)) := by
  rw [Bool.eq_iff_iff, decide_eq_true_eq, Bool.not_eq_true', List.any_eq_false]
  constructor
  · intro hg g hm; simpa using hg.2 g hm
  · intro hg; exact ⟨h, fun g hm => by simpa using hg g hm⟩
theorem gamesOk_no {rows : List (List Int)} (h : ¬ rows.length ≤ 18) : decide (gamesOk rows) = false := by
  rw [decide_eq_false_iff_not]; exact fun hg => h hg.1
theorem clash_iff {rows : List (List Int)} {days : List Int} {i k : Nat} {di dk a b c d : Int} (hi : days[i]? = some di) (hk : days[k]? = some dk) (ri : rows[i]? = some [a, b]) (rk : rows[k]? = some [c, d]) :
    clash rows days i k ↔ di = dk ∧ (a = c ∨ b = d) := by
  simp [clash, List.getD, hi, hk, ri, rk]
/-- No clash up to i. -/
def freeTo (rows : List (List Int)) (days : List Int) (i : Nat) : Prop := ∀ j, j < i → ∀ k, k < j → ¬ clash rows days j k
theorem freeTo_succ {rows : List (List Int)} {days : List Int} {i : Nat} (h : freeTo rows days i) (h2 : ∀ k, k < i → ¬ clash rows days i k) : freeTo rows days (i + 1) := by
  intro j hj k hk
  by_cases e : j = i
  · subst e; exact h2 k hk
  · exact h j (by omega) k hk

/-- The games among the first k that are played on a day. -/
def onTo (rows : List (List Int)) (days : List Int) (day : Int) : Nat → List (List Int)
  | 0 => []
  | k + 1 => onTo rows days day k ++ if days.getD k 0 = day then [rows.getD k []] else []
def gamesOn (rows : List (List Int)) (days : List Int) (day : Int) : List (List Int) := if isSchedule rows days then onTo rows days day rows.length else []
theorem onTo_yes {rows : List (List Int)} {days : List Int} {day : Int} {k : Nat} {r : List Int} (hd : days[k]? = some day) (hr : rows[k]? = some r) : onTo rows days day (k + 1) = onTo rows days day k ++ [r] := by
  simp [onTo, List.getD, hd, hr]
theorem onTo_no {rows : List (List Int)} {days : List Int} {day d : Int} {k : Nat} (hd : days[k]? = some d) (hne : ¬ d = day) : onTo rows days day (k + 1) = onTo rows days day k := by
  simp [onTo, List.getD, hd, hne]
theorem onTo_len (rows : List (List Int)) (days : List Int) (day : Int) (k : Nat) : (onTo rows days day k).length ≤ k := by
  induction k with
  | zero => simp [onTo]
  | succ k ih =>
    simp only [onTo, List.length_append]
    split
    · simp; omega
    · simp; omega
theorem onTo_mem {rows : List (List Int)} {days : List Int} {day : Int} {k : Nat} (hk : k ≤ rows.length) : ∀ r ∈ onTo rows days day k, r ∈ rows := by
  induction k with
  | zero => simp [onTo]
  | succ k ih =>
    intro r hr
    simp only [onTo] at hr
    rcases List.mem_append.1 hr with hr | hr
    · exact ih (by omega) r hr
    · split at hr
      · simp at hr
        subst hr
        rw [List.getElem?_eq_getElem (by omega)]
        exact List.getElem_mem _
      · cases hr
theorem onTo_count {rows : List (List Int)} {days : List Int} (day : Nat) {k : Nat} (hk : k ≤ days.length) : ((onTo rows days day k).length : Int) = cntL (days.take k) day := by
  induction k with
  | zero => simp [onTo, cntL]
  | succ k ih =>
    obtain ⟨d, hd⟩ : ∃ d, days[k]? = some d := ⟨_, List.getElem?_eq_getElem (by omega)⟩
    rw [take_snoc_of hd]
    have ih := ih (by omega)
    by_cases e : d = (day : Int)
    · subst e
      have hg : days.getD k 0 = (day : Int) := by simp [List.getD, hd]
      simp only [onTo, hg, if_pos, List.length_append, List.length_singleton]
      simp [cntL, List.countP_append] at ih ⊢
      omega
    · rw [onTo_no hd e, ih]
      simp [cntL, List.countP_append, e]
theorem gamesOn_len (rows : List (List Int)) (days : List Int) (day : Int) : (gamesOn rows days day).length ≤ 18 ∧ (gamesOn rows days day).length ≤ rows.length := by
  unfold gamesOn
  split
  · rename_i h
    have := onTo_len rows days day rows.length
    have := h.1.1
    omega
  · simp
/-- The most games of a day. -/
def courts (rows : List (List Int)) (days : List Int) : Int := if isSchedule rows days then maxL (counts 18 days) else -1
theorem maxL_counts_take (m : Nat) (l : List Int) (k : Nat) (hk : k < m) : maxL ((counts m l).take (k + 1)) = max (maxL ((counts m l).take k)) (cntL l k) :=
  maxL_take_snoc (fun x hx => (counts_nonneg m l x hx).1) (counts_get l hk)
/-- The days behind a move. -/
def mayMove (rows : List (List Int)) (days : List Int) (i day : Int) : Prop := isSchedule rows days ∧ (0 ≤ i ∧ i ≤ (rows.length : Int) - 1) ∧ isSchedule rows (days.set i.toNat day)
instance (rows : List (List Int)) (days : List Int) (i day : Int) : Decidable (mayMove rows days i day) := by unfold mayMove; infer_instance
def moved (rows : List (List Int)) (days : List Int) (i day : Int) : List Int := if mayMove rows days i day then days.set i.toNat day else []
theorem moved_len (rows : List (List Int)) (days : List Int) (i day : Int) : (moved rows days i day).length ≤ days.length := by
  unfold moved; split <;> simp

end Go.Proofs.YtbaljgdepicigaaDoor
/-
  Plain lemmas on seeds and rounds: no program.
-/
namespace Go.Proofs.YtbaljgdepicigaaDoor
set_option linter.unusedVariables false

/-- A number of entries of a bracket. -/
def brkSize (n : Int) : Prop := n = 1 ∨ n = 2 ∨ n = 4 ∨ n = 8
instance (n : Int) : Decidable (brkSize n) := by unfold brkSize; infer_instance

/-- In which round the places i and k of a bracket of at most 8 meet. -/
def meetR (i k : Nat) : Nat := if i = k then 0 else if i / 2 = k / 2 then 1 else if i / 4 = k / 4 then 2 else 3
theorem meetR_same (i : Nat) : meetR i i = 0 := by simp [meetR]
theorem meetR_step {i k : Nat} (h : i ≠ k) (hi : i ≤ 7) (hk : k ≤ 7) : meetR i k = meetR (i / 2) (k / 2) + 1 := by
  unfold meetR
  rw [if_neg h]
  by_cases h1 : i / 2 = k / 2
  · simp [h1]
  · rw [if_neg h1, if_neg h1]
    by_cases h2 : i / 4 = k / 4
    · rw [if_pos h2, if_pos (by omega)]
    · rw [if_neg h2, if_neg (by omega), if_pos (by omega)]
theorem meetR_le (i k : Nat) : meetR i k ≤ 3 := by unfold meetR; split <;> (try split) <;> (try split) <;> omega
/-- The number of binary digits of a number below 8. -/
def lenR (x : Nat) : Nat := if x = 0 then 0 else if x < 2 then 1 else if x < 4 then 2 else 3
theorem lenR_xor : ∀ i : Nat, i < 8 → ∀ k : Nat, k < 8 → lenR (i ^^^ k) = meetR i k ∧ i ^^^ k < 8 := by decide
def roundOfMeeting (n i k : Int) : Int := if brkSize n ∧ (0 ≤ i ∧ i ≤ n - 1) ∧ (0 ≤ k ∧ k ≤ n - 1) then meetR i.toNat k.toNat else 0

/-- Each s is followed by m + 1 - s. -/
def seedStep (m : Int) (xs : List Int) : List Int := xs.flatMap fun s => [s, m + 1 - s]
theorem seedStep_len (m : Int) (xs : List Int) : (seedStep m xs).length = 2 * xs.length := by
  induction xs with
  | nil => rfl
  | cons x r ih => simp only [seedStep, List.flatMap_cons, List.length_append, List.length_cons, List.length_nil] at ih ⊢; omega
theorem seedStep_snoc (m : Int) {xs : List Int} {j : Nat} {x : Int} (h : xs[j]? = some x) : seedStep m (xs.take (j + 1)) = seedStep m (xs.take j) ++ [x, m + 1 - x] := by
  rw [take_snoc_of h]; simp [seedStep]
def pw2 : Nat → Nat
  | 0 => 1
  | k + 1 => 2 * pw2 k
def seedTo : Nat → List Int
  | 0 => [1]
  | k + 1 => seedStep (pw2 (k + 1)) (seedTo k)
theorem seedTo_len (k : Nat) : (seedTo k).length = pw2 k := by
  induction k with
  | zero => rfl
  | succ k ih => rw [seedTo, seedStep_len, ih, pw2]
theorem pw2_small {k : Nat} (h : k ≤ 4) : 1 ≤ pw2 k ∧ pw2 k ≤ 16 := by
  match k, h with
  | 0, _ => simp [pw2]
  | 1, _ => simp [pw2]
  | 2, _ => simp [pw2]
  | 3, _ => simp [pw2]
  | 4, _ => simp [pw2]
theorem pw2_mono {j k : Nat} (h : j ≤ k) : pw2 j ≤ pw2 k := by
  induction k with
  | zero => obtain rfl : j = 0 := by omega
            exact Nat.le_refl _
  | succ k ih =>
    by_cases e : j = k + 1
    · rw [e]; exact Nat.le_refl _
    · have := ih (by omega); rw [pw2]; omega
theorem pw2_lt {j k : Nat} (h : j < k) : 2 * pw2 j ≤ pw2 k := pw2_mono (j := j + 1) h
theorem pw2_pos (k : Nat) : 1 ≤ pw2 k := by have := pw2_mono (Nat.zero_le k); simpa [pw2] using this
def lg (n : Int) : Nat := if n = 1 then 0 else if n = 2 then 1 else if n = 4 then 2 else 3
theorem brk_pw2 {n : Int} (h : brkSize n) : n = pw2 (lg n) ∧ lg n ≤ 3 := by
  rcases h with rfl | rfl | rfl | rfl <;> simp [lg, pw2]
theorem seed_wf : ∀ k : Nat, k < 4 → ∀ x ∈ seedTo k, 1 ≤ x ∧ x ≤ (pw2 k : Int) := by decide
def seedOrder (n : Int) : List Int := if brkSize n then seedTo (lg n) else []
theorem seedOrder_len (n : Int) : (seedOrder n).length ≤ 8 := by
  unfold seedOrder
  split
  · rename_i h
    have := brk_pw2 h
    have h2 := pw2_mono this.2
    rw [seedTo_len]; simpa [pw2] using h2
  · simp
theorem seedOrder_wf {n : Int} (h : brkSize n) : ∀ x ∈ seedOrder n, 1 ≤ x ∧ x ≤ n := by
  have hp := brk_pw2 h
  have := seed_wf (lg n) (by omega)
  rw [← hp.1] at this
  unfold seedOrder; rw [if_pos h]; exact this
def ordOk (xs : List Int) (m : Int) : Prop := brkSize m ∧ (1 ≤ (xs.length : Int) ∧ (xs.length : Int) ≤ m) ∧ (∀ x ∈ xs, 0 ≤ x) ∧ xs.Nodup
instance (xs : List Int) (m : Int) : Decidable (ordOk xs m) := by unfold ordOk; infer_instance
def seedAt (xs : List Int) (s : Int) : Int := if s ≤ xs.length then xs.getD (s - 1).toNat 0 else -1
def seedBracket (xs : List Int) (m : Int) : List Int := if ordOk xs m then (seedOrder m).map (seedAt xs) else []
theorem seedBracket_len (xs : List Int) (m : Int) : (seedBracket xs m).length ≤ 8 := by
  unfold seedBracket; split
  · rw [List.length_map]; exact seedOrder_len m
  · simp
theorem map_take_snoc {α β : Type} (f : α → β) {l : List α} {j : Nat} {x : α} (h : l[j]? = some x) : (l.take (j + 1)).map f = (l.take j).map f ++ [f x] := by
  rw [take_snoc_of h, List.map_append]; rfl
theorem seedAt_in {xs : List Int} {s : Nat} {x : Int} (h : xs[s]? = some x) : seedAt xs (s + 1) = x := by
  have := (List.getElem?_eq_some_iff.1 h).1
  unfold seedAt; rw [if_pos (by omega), show ((s : Int) + 1 - 1).toNat = s by omega]; simp [List.getD, h]

end Go.Proofs.YtbaljgdepicigaaDoor
/-
  Plain lemmas on bits, tours and brackets: no program.
-/
namespace Go.Proofs.YtbaljgdepicigaaDoor
set_option linter.unusedVariables false

/-! ### Bits -/
/-- Bit b of a number. -/
def bitAt (m : Int) (b : Nat) : Int := m / 2 ^ b % 2
theorem bitAt_01 (m : Int) (b : Nat) : bitAt m b = 0 ∨ bitAt m b = 1 := by unfold bitAt; omega
theorem bitAt_nat (m : Nat) (b : Nat) : bitAt (m : Int) b = if m.testBit b then 1 else 0 := by
  unfold bitAt
  have e : (m : Int) / 2 ^ b % 2 = ((m / 2 ^ b % 2 : Nat) : Int) := by simp
  rw [e, Nat.testBit_eq_decide_div_mod_eq]
  by_cases h : m / 2 ^ b % 2 = 1
  · simp [h]
  · have : m / 2 ^ b % 2 = 0 := by omega
    simp [this]
theorem bitAt_iff (m : Nat) (b : Nat) : bitAt (m : Int) b = 1 ↔ m.testBit b = true := by rw [bitAt_nat]; split <;> simp_all
theorem bit_add : ∀ m : Nat, m < 256 → ∀ a : Nat, a < 8 → m.testBit a = false → ∀ b : Nat, b < 8 → (m + 2 ^ a).testBit b = (m.testBit b || a == b) := by decide +kernel
theorem bit_add_lt : ∀ m : Nat, m < 256 → ∀ a : Nat, a < 8 → m.testBit a = false → m + 2 ^ a < 256 := by decide +kernel

/-! ### Tours -/
/-- Does a beat b? -/
def bts (xs : List Int) (a b : Nat) : Prop := bitAt (xs.getD a 0) b = 1
instance (xs : List Int) (a b : Nat) : Decidable (bts xs a b) := by unfold bts; infer_instance
def tourOk (s : Int) (xs : List Int) : Prop :=
  (1 ≤ s ∧ s ≤ 8) ∧ (xs.length : Int) = s ∧ (∀ x ∈ xs, 0 ≤ x ∧ x ≤ 2 ^ xs.length - 1) ∧ ∀ a, a < xs.length → (∀ b, b < a → (bts xs a b ↔ ¬ bts xs b a)) ∧ ¬ bts xs a a
instance (s : Int) (xs : List Int) : Decidable (tourOk s xs) := by unfold tourOk; infer_instance
theorem tourOk_size {s : Int} {xs : List Int} (h : tourOk s xs) : 1 ≤ xs.length ∧ xs.length ≤ 8 ∧ s = xs.length := by
  have := h.1; have := h.2.1; omega
theorem pow_le_256 {n : Nat} (h : n ≤ 8) : (2 : Int) ^ n ≤ 256 := by
  have h2 : (2 : Nat) ^ n ≤ 2 ^ 8 := Nat.pow_le_pow_right (by omega) h
  have h3 : ((2 ^ n : Nat) : Int) = (2 : Int) ^ n := by simp
  omega
theorem tourOk_row {s : Int} {xs : List Int} (h : tourOk s xs) : ∀ x ∈ xs, 0 ≤ x ∧ x ≤ 255 := fun x hx => by
  have h1 := h.2.2.1 x hx
  have h2 := pow_le_256 (tourOk_size h).2.1
  omega
theorem bts_anti {s : Int} {xs : List Int} (h : tourOk s xs) {a b : Nat} (ha : a < xs.length) (hb : b < xs.length) (hne : a ≠ b) : bts xs a b ↔ ¬ bts xs b a := by
  rcases Nat.lt_or_gt_of_ne hne with hlt | hlt
  · have := (h.2.2.2 b hb).1 a hlt
    by_cases e : bts xs a b <;> by_cases e2 : bts xs b a <;> simp_all
  · exact (h.2.2.2 a ha).1 b hlt
theorem bts_self {s : Int} {xs : List Int} (h : tourOk s xs) {a : Nat} (ha : a < xs.length) : ¬ bts xs a a := (h.2.2.2 a ha).2
/-- What the loop has seen of a tour. -/
def tourTo (xs : List Int) (k : Nat) : Prop := ∀ a, a < k → (∀ b, b < a → (bts xs a b ↔ ¬ bts xs b a)) ∧ ¬ bts xs a a
theorem tourTo_succ {xs : List Int} {k : Nat} (h : tourTo xs k) (h1 : ∀ b, b < k → (bts xs k b ↔ ¬ bts xs b k)) (h2 : ¬ bts xs k k) : tourTo xs (k + 1) := by
  intro a ha
  by_cases e : a = k
  · subst e; exact ⟨h1, h2⟩
  · exact h a (by omega)
theorem upTo_succ {P : Nat → Prop} {k : Nat} (h : ∀ b, b < k → P b) (hk : P k) : ∀ b, b < k + 1 → P b := by
  intro b hb
  by_cases e : b = k
  · subst e; exact hk
  · exact h b (by omega)

/-! ### Brackets -/
/-- The entries that are players. -/
def plrs (br : List Int) : List Int := br.filter fun x => decide (0 ≤ x)
def bracketOk (s : Int) (xs br : List Int) : Prop :=
  tourOk s xs ∧ brkSize br.length ∧ (∀ x ∈ br, -1 ≤ x ∧ x ≤ s - 1) ∧ plrs br ≠ [] ∧ (plrs br).Nodup
instance (s : Int) (xs br : List Int) : Decidable (bracketOk s xs br) := by unfold bracketOk; infer_instance
theorem plrs_snoc {br : List Int} {k : Nat} {x : Int} (h : br[k]? = some x) : plrs (br.take (k + 1)) = plrs (br.take k) ++ if 0 ≤ x then [x] else [] := by
  rw [take_snoc_of h]; simp only [plrs, List.filter_append]; by_cases e : 0 ≤ x <;> simp [e]
theorem mem_plrs {br : List Int} {x : Int} : x ∈ plrs br ↔ x ∈ br ∧ 0 ≤ x := by simp [plrs]
theorem nodup_push {l : List Int} {x : Int} : (l ++ [x]).Nodup ↔ l.Nodup ∧ ¬ x ∈ l := by
  rw [List.nodup_append]; simp
  intro _
  constructor
  · intro h hx; exact h x hx rfl
  · intro h y hy e; exact h (e ▸ hy)
theorem plrs_take {br : List Int} (k : Nat) (h : (plrs br).Nodup) : (plrs (br.take k)).Nodup := h.sublist ((List.take_sublist k br).filter _)
theorem ne_nil_mem {α : Type} {l : List α} : l ≠ [] ↔ ∃ x, x ∈ l := by cases l with | nil => simp | cons x r => simp
theorem foldl_max_ge {l : List Int} : ∀ a : Int, 0 ≤ l.foldl max a ↔ 0 ≤ a ∨ ∃ x ∈ l, 0 ≤ x := by
  induction l with
  | nil => simp
  | cons y r ih =>
    intro a
    simp only [List.foldl_cons, ih, List.mem_cons, exists_eq_or_imp, ← or_assoc]
    have : 0 ≤ max a y ↔ 0 ≤ a ∨ 0 ≤ y := by omega
    rw [this]
theorem plrs_max {br : List Int} : plrs br ≠ [] ↔ ¬ br.foldl max (-1) < 0 := by
  rw [Int.not_lt, foldl_max_ge, ne_nil_mem]
  simp [mem_plrs]
/-- The set of players. -/
def setN : List Int → Nat
  | [] => 0
  | x :: r => setN r + 2 ^ x.toNat
theorem setN_snoc (l : List Int) (x : Int) : setN (l ++ [x]) = setN l + 2 ^ x.toNat := by
  induction l with
  | nil => simp [setN]
  | cons y r ih => simp only [List.cons_append, setN, ih]; omega
theorem setN_bits (l : List Int) (hl : ∀ x ∈ l, 0 ≤ x ∧ x < 8) (hn : l.Nodup) : setN l < 256 ∧ ∀ b : Nat, b < 8 → (setN l).testBit b = decide ((b : Int) ∈ l) := by
  induction l with
  | nil => simp [setN]
  | cons x r ih =>
    have hx := hl x (by simp)
    have ⟨h1, h2⟩ := ih (fun y hy => hl y (by simp [hy])) (List.nodup_cons.1 hn).2
    have hxr := (List.nodup_cons.1 hn).1
    have hf : (setN r).testBit x.toNat = false := by
      rw [h2 _ (by omega), Int.toNat_of_nonneg hx.1]; simpa using hxr
    refine ⟨bit_add_lt _ h1 _ (by omega) hf, fun b hb => ?_⟩
    simp only [setN]
    rw [bit_add _ h1 _ (by omega) hf b hb, h2 b hb]
    have e : (x.toNat == b) = decide ((b : Int) = x) := by rw [Bool.eq_iff_iff]; simp; omega
    rw [e]
    by_cases e1 : (b : Int) = x <;> by_cases e2 : (b : Int) ∈ r <;> simp [e1, e2]
theorem setN_pos (l : List Int) : 0 < setN l ↔ l ≠ [] := by
  cases l with
  | nil => simp [setN]
  | cons x r => simp [setN]; have := Nat.two_pow_pos x.toNat; omega

/-- Who goes on. -/
def game (xs : List Int) (a b : Int) : Int := if a < 0 ∨ 0 ≤ b ∧ bts xs b.toNat a.toNat then b else a
def nextR (xs : List Int) : List Int → List Int
  | a :: b :: r => game xs a b :: nextR xs r
  | _ => []
theorem nextR_len (xs : List Int) : ∀ br : List Int, (nextR xs br).length = br.length / 2
  | [] => rfl
  | [_] => by simp [nextR]
  | a :: b :: r => by simp only [nextR, List.length_cons, nextR_len xs r]; omega
theorem nextR_get (xs : List Int) : ∀ (br : List Int) (k : Nat) (a b : Int), br[2 * k]? = some a → br[2 * k + 1]? = some b → (nextR xs br)[k]? = some (game xs a b)
  | [], k, a, b => by simp
  | [_], k, a, b => by simp
  | x :: y :: r, k, a, b => by
    cases k with
    | zero => simp [nextR]; rintro rfl rfl; rfl
    | succ k =>
      simp only [nextR, List.getElem?_cons_succ, show 2 * (k + 1) = 2 * k + 1 + 1 from by omega]
      exact nextR_get xs r k a b
theorem nextR_take (xs : List Int) {br : List Int} {k : Nat} {a b : Int} (h1 : br[2 * k]? = some a) (h2 : br[2 * k + 1]? = some b) : (nextR xs br).take (k + 1) = (nextR xs br).take k ++ [game xs a b] :=
  take_snoc_of (nextR_get xs br k a b h1 h2)
theorem game_or (xs : List Int) (a b : Int) : game xs a b = a ∨ game xs a b = b := by unfold game; split <;> simp
theorem nextR_mem (xs : List Int) : ∀ (br : List Int) (x : Int), x ∈ nextR xs br → x ∈ br
  | [], x, h => by simp [nextR] at h
  | [_], x, h => by simp [nextR] at h
  | a :: b :: r, x, h => by
    simp only [nextR, List.mem_cons] at h
    rcases h with rfl | h
    · rcases game_or xs a b with e | e <;> simp [e]
    · have := nextR_mem xs r x h; simp [this]
theorem game_sub (xs : List Int) (a b : Int) : (plrs [game xs a b]).Sublist (plrs [a, b]) := by
  have h1 : [a].Sublist [a, b] := by simp
  have h2 : [b].Sublist [a, b] := by simp
  rcases game_or xs a b with e | e <;> rw [e]
  · exact h1.filter _
  · exact h2.filter _
theorem nextR_sub (xs : List Int) : ∀ br : List Int, (plrs (nextR xs br)).Sublist (plrs br)
  | [] => by simp [nextR]
  | [_] => by simp [nextR, plrs]
  | a :: b :: r => by
    have e1 : plrs (nextR xs (a :: b :: r)) = plrs [game xs a b] ++ plrs (nextR xs r) := by simp only [nextR, plrs]; rw [← List.filter_append]; rfl
    have e2 : plrs (a :: b :: r) = plrs [a, b] ++ plrs r := by simp only [plrs]; rw [← List.filter_append]; rfl
    rw [e1, e2]
    exact (game_sub xs a b).append (nextR_sub xs r)
theorem game_some (xs : List Int) (a b : Int) (h : 0 ≤ a ∨ 0 ≤ b) : 0 ≤ game xs a b := by
  unfold game; split <;> omega
theorem nextR_some (xs : List Int) : ∀ br : List Int, br.length % 2 = 0 → plrs br ≠ [] → plrs (nextR xs br) ≠ []
  | [], _, h => h
  | [_], h, _ => by simp at h
  | a :: b :: r, hl, h => by
    rw [ne_nil_mem] at h ⊢
    obtain ⟨x, hx⟩ := h
    simp only [mem_plrs, List.mem_cons] at hx
    simp only [mem_plrs, nextR, List.mem_cons]
    rcases hx with ⟨e | e | hx, h0⟩
    · subst e; exact ⟨_, .inl rfl, game_some _ _ _ (.inl h0)⟩
    · subst e; exact ⟨_, .inl rfl, game_some _ _ _ (.inr h0)⟩
    · have := nextR_some xs r (by simp at hl; omega) (ne_nil_mem.2 ⟨x, mem_plrs.2 ⟨hx, h0⟩⟩)
      rw [ne_nil_mem] at this
      obtain ⟨y, hy⟩ := this
      rw [mem_plrs] at hy
      exact ⟨y, .inr hy.1, hy.2⟩
/-- What every round of a bracket keeps. -/
def brk (s : Int) (br : List Int) : Prop := brkSize br.length ∧ (∀ x ∈ br, -1 ≤ x ∧ x ≤ s - 1) ∧ plrs br ≠ [] ∧ (plrs br).Nodup
theorem bracketOk_brk {s : Int} {xs br : List Int} (h : bracketOk s xs br) : brk s br := h.2
theorem brk_next {s : Int} {br : List Int} (xs : List Int) (h : brk s br) (h1 : 1 < br.length) : brk s (nextR xs br) := by
  obtain ⟨hs, hb, hp, hn⟩ := h
  have hl := nextR_len xs br
  unfold brkSize at hs
  refine ⟨?_, fun x hx => hb x (nextR_mem xs br x hx), nextR_some xs br (by omega) hp, hn.sublist (nextR_sub xs br)⟩
  unfold brkSize; omega
theorem brk_len {s : Int} {br : List Int} (h : brk s br) : 1 ≤ br.length ∧ br.length ≤ 8 := by have := h.1; unfold brkSize at this; omega
def winner (xs : List Int) (br : List Int) : Int := if 1 < br.length then winner xs (nextR xs br) else br.getD 0 (-1)
termination_by br.length
decreasing_by rw [nextR_len]; omega
theorem winner_step {xs br : List Int} (h : 1 < br.length) : winner xs br = winner xs (nextR xs br) := by rw [winner, if_pos h]
theorem winner_end {xs br : List Int} (h : ¬ 1 < br.length) : winner xs br = br.getD 0 (-1) := by rw [winner, if_neg h]
def winnerOf (s : Int) (xs br : List Int) : Int := if bracketOk s xs br then winner xs br else -1
def nextRound (s : Int) (xs br : List Int) : List Int := if bracketOk s xs br ∧ ¬ br.length = 1 then nextR xs br else []
theorem nextRound_len (s : Int) (xs br : List Int) : (nextRound s xs br).length ≤ 4 := by
  unfold nextRound
  split
  · rename_i h; rw [nextR_len]; have := brk_len h.1.2; omega
  · simp

end Go.Proofs.YtbaljgdepicigaaDoor
/-
  Plain lemmas on monotone tours, brackets that are the same, and the sizes of sets: no program.
-/
namespace Go.Proofs.YtbaljgdepicigaaDoor
set_option linter.unusedVariables false

/-! ### Tours in which each beats those behind -/
def isMono (s : Int) (xs : List Int) : Prop := tourOk s xs ∧ ∀ a, a < xs.length → ∀ b, b < xs.length → a < b → bts xs a b
instance (s : Int) (xs : List Int) : Decidable (isMono s xs) := by unfold isMono; infer_instance
/-- The set of those from lo to hi - 1. -/
def upN (lo : Nat) : Nat → Nat
  | 0 => 0
  | k + 1 => upN lo k + 2 ^ (lo + k)
def monoRow (n a : Nat) : Nat := upN (a + 1) (n - (a + 1))
def mono (n : Nat) : List Int := (List.range n).map fun (a : Nat) => (monoRow n a : Int)
theorem mono_len (n : Nat) : (mono n).length = n := by simp [mono]
theorem mono_get {n a : Nat} (h : a < n) : (mono n)[a]? = some (monoRow n a : Int) := by simp [mono, h]
theorem mono_bits : ∀ n : Nat, n < 9 → ∀ a : Nat, a < n → monoRow n a < 2 ^ n ∧ ∀ b : Nat, b < n → (monoRow n a).testBit b = decide (a < b) := by decide +kernel
theorem eq_of_bits {n m k : Nat} (hm : m < 2 ^ n) (hk : k < 2 ^ n) (h : ∀ b, b < n → m.testBit b = k.testBit b) : m = k := by
  apply Nat.eq_of_testBit_eq
  intro i
  by_cases hi : i < n
  · exact h i hi
  · have h2 : 2 ^ n ≤ 2 ^ i := Nat.pow_le_pow_right (by omega) (by omega)
    rw [Nat.testBit_lt_two_pow (by omega), Nat.testBit_lt_two_pow (by omega)]
theorem row_nat {s : Int} {xs : List Int} (h : tourOk s xs) {a : Nat} (ha : a < xs.length) : ∃ m : Nat, xs[a]? = some (m : Int) ∧ m < 2 ^ xs.length := by
  have hx := h.2.2.1 xs[a] (List.getElem_mem ha)
  have h3 : ((2 ^ xs.length : Nat) : Int) = (2 : Int) ^ xs.length := by simp
  refine ⟨xs[a].toNat, ?_, ?_⟩
  · rw [List.getElem?_eq_getElem ha, Int.toNat_of_nonneg hx.1]
  · omega
theorem bts_nat {xs : List Int} {a b m : Nat} (h : xs[a]? = some (m : Int)) : bts xs a b ↔ m.testBit b = true := by
  unfold bts; rw [List.getD, h]; exact bitAt_iff m b
theorem isMono_iff {s : Int} {xs : List Int} (h : tourOk s xs) : isMono s xs ↔ xs = mono xs.length := by
  have h8 := tourOk_size h
  constructor
  · rintro ⟨_, hm⟩
    apply List.ext_getElem?
    intro a
    by_cases ha : a < xs.length
    · obtain ⟨m, hx, hlt⟩ := row_nat h ha
      rw [mono_get ha, hx]
      obtain ⟨hb1, hb2⟩ := mono_bits xs.length (by omega) a ha
      have : m = monoRow xs.length a := by
        refine eq_of_bits hlt hb1 fun b hb => ?_
        rw [hb2 b hb, Bool.eq_iff_iff, ← bts_nat hx, decide_eq_true_eq]
        constructor
        · intro hab
          rcases Nat.lt_trichotomy a b with e | e | e
          · exact e
          · subst e; exact absurd hab (bts_self h ha)
          · exact absurd hab ((bts_anti h hb ha (by omega)).1 (hm b hb a ha e))
        · exact hm a ha b hb
      rw [this]
    · rw [List.getElem?_eq_none (by omega), List.getElem?_eq_none (by rw [mono_len]; omega)]
  · intro he
    refine ⟨h, fun a ha b hb hab => ?_⟩
    have hx : xs[a]? = some (monoRow xs.length a : Int) := by
      have := mono_get ha
      rw [← he] at this
      exact this
    rw [bts_nat hx, (mono_bits xs.length (by omega) a ha).2 b hb]
    simpa using hab
/-- The pairs before row a. -/
def prs (n : Nat) : Nat → Nat
  | 0 => 0
  | a + 1 => prs n a + (n - (a + 1))
theorem prs_lt : ∀ n : Nat, n < 9 → ∀ a : Nat, a < n → ∀ b : Nat, b < n → a < b → prs n a + (b - (a + 1)) < 28 := by decide
/-- So many bits of 28 are left. -/
def ones (j : Nat) : Nat := 2 ^ (28 - j) - 1
theorem ones_step : ∀ j : Nat, j < 28 → ones j % 2 = 1 ∧ ones j / 2 = ones (j + 1) := by decide
theorem ones_le (j : Nat) : ones j ≤ 268435455 := by
  unfold ones
  have : 2 ^ (28 - j) ≤ 2 ^ 28 := Nat.pow_le_pow_right (by omega) (by omega)
  omega
theorem upN_lt (lo k : Nat) (h : lo + k ≤ 8) : upN lo k < 256 := by
  have key : ∀ lo : Nat, lo < 9 → ∀ k : Nat, k < 9 → lo + k ≤ 8 → upN lo k < 256 := by decide
  exact key lo (by omega) k (by omega) h

/-! ### Sizes of sets -/
/-- How many bits are set, below 8. -/
def pc (m : Nat) : Nat := (m % 2) + (m / 2 % 2) + (m / 4 % 2) + (m / 8 % 2) + (m / 16 % 2) + (m / 32 % 2) + (m / 64 % 2) + (m / 128 % 2)
def orN : List Int → Nat
  | [] => 0
  | x :: r => orN r ||| 2 ^ x.toNat
theorem or_comm3 (a b c : Nat) : a ||| b ||| c = a ||| c ||| b := by rw [Nat.or_assoc, Nat.or_comm b c, ← Nat.or_assoc]
theorem orN_snoc (l : List Int) (x : Int) : orN (l ++ [x]) = orN l ||| 2 ^ x.toNat := by
  induction l with
  | nil => rfl
  | cons y r ih => simp only [List.cons_append, orN, ih]; rw [or_comm3]
theorem or_bit : ∀ m : Nat, m < 256 → ∀ a : Nat, a < 8 → (m ||| 2 ^ a) < 256 ∧ pc (m ||| 2 ^ a) = pc m + (if m.testBit a then 0 else 1) := by decide +kernel
theorem or_bit_get : ∀ m : Nat, m < 256 → ∀ a : Nat, a < 8 → ∀ b : Nat, b < 8 → (m ||| 2 ^ a).testBit b = (m.testBit b || a == b) := by decide +kernel
theorem orN_bits (l : List Int) (hl : ∀ x ∈ l, 0 ≤ x ∧ x < 8) : orN l < 256 ∧ ∀ b : Nat, b < 8 → (orN l).testBit b = decide ((b : Int) ∈ l) := by
  induction l with
  | nil => simp [orN]
  | cons x r ih =>
    have hx := hl x (by simp)
    have ⟨h1, h2⟩ := ih (fun y hy => hl y (by simp [hy]))
    refine ⟨(or_bit _ h1 _ (by omega)).1, fun b hb => ?_⟩
    simp only [orN]
    rw [or_bit_get _ h1 _ (by omega) b hb, h2 b hb]
    have e : (x.toNat == b) = decide ((b : Int) = x) := by rw [Bool.eq_iff_iff]; simp; omega
    rw [e]
    by_cases e1 : (b : Int) = x <;> by_cases e2 : (b : Int) ∈ r <;> simp [e1, e2]
theorem orN_pc (l : List Int) (hl : ∀ x ∈ l, 0 ≤ x ∧ x < 8) : pc (orN l) ≤ l.length ∧ (pc (orN l) = l.length ↔ l.Nodup) := by
  induction l with
  | nil => simp [orN, pc]
  | cons x r ih =>
    have hx := hl x (by simp)
    have hr : ∀ y ∈ r, 0 ≤ y ∧ y < 8 := fun y hy => hl y (by simp [hy])
    have ⟨h1, h2⟩ := ih hr
    have ⟨h3, h4⟩ := orN_bits r hr
    simp only [orN, List.length_cons, List.nodup_cons]
    rw [(or_bit _ h3 _ (by omega)).2, h4 _ (by omega), Int.toNat_of_nonneg hx.1]
    by_cases e : x ∈ r
    · simp [e]; omega
    · simp [e]; rw [← h2]; omega
/-- A bracket of different numbers from 0 to 7. -/
def isFull (xs : List Int) : Prop := brkSize xs.length ∧ (∀ x ∈ xs, 0 ≤ x ∧ x ≤ 7) ∧ xs.Nodup
instance (xs : List Int) : Decidable (isFull xs) := by unfold isFull; infer_instance

/-! ### The least form of a bracket -/
/-- Of two halves the one with the lesser first number comes first. -/
def joinB (x y : List Int) : List Int := if y.getD 0 0 < x.getD 0 0 then y ++ x else x ++ y
def formB : Nat → List Int → List Int
  | 0, xs => xs
  | k + 1, xs => joinB (formB k (xs.take (pw2 k))) (formB k (xs.drop (pw2 k)))
theorem joinB_len (x y : List Int) : (joinB x y).length = x.length + y.length := by unfold joinB; split <;> simp [Nat.add_comm]
theorem formB_len (k : Nat) : ∀ xs : List Int, xs.length = pw2 k → (formB k xs).length = pw2 k := by
  induction k with
  | zero => intro xs h; exact h
  | succ k ih =>
    intro xs h
    simp only [pw2] at h
    simp only [formB, joinB_len]
    rw [ih _ (by simp; omega), ih _ (by simp; omega)]
    simp only [pw2]; omega
theorem joinB_yes {x y : List Int} (h : y.getD 0 0 < x.getD 0 0) : joinB x y = y ++ x := if_pos h
theorem joinB_no {x y : List Int} (h : ¬ y.getD 0 0 < x.getD 0 0) : joinB x y = x ++ y := if_neg h
theorem joinB_mem {x y : List Int} {z : Int} (h : z ∈ joinB x y) : z ∈ x ∨ z ∈ y := by
  unfold joinB at h; split at h <;> rw [List.mem_append] at h
  · exact h.symm
  · exact h
theorem formB_mem (k : Nat) : ∀ (xs : List Int) (z : Int), z ∈ formB k xs → z ∈ xs := by
  induction k with
  | zero => intro xs z h; exact h
  | succ k ih =>
    intro xs z h
    rcases joinB_mem h with h | h
    · exact List.mem_of_mem_take (ih _ _ h)
    · exact List.mem_of_mem_drop (ih _ _ h)
def sameBracket (xs ys : List Int) : Prop := isFull xs ∧ isFull ys ∧ xs.length = ys.length ∧ formB (lg xs.length) xs = formB (lg ys.length) ys
instance (xs ys : List Int) : Decidable (sameBracket xs ys) := by unfold sameBracket; infer_instance
/-- The rows of a monotone tour, while they are filled: row a up to player b. -/
def monoMid (n a b : Nat) : List Int := (List.range n).map fun (i : Nat) => if i < a then (monoRow n i : Int) else if i = a then (upN (a + 1) (b - (a + 1)) : Int) else 0
theorem monoMid_len (n a b : Nat) : (monoMid n a b).length = n := by simp [monoMid]
theorem monoMid_get {n a b : Nat} (h : a < n) : (monoMid n a b)[a]? = some (upN (a + 1) (b - (a + 1)) : Int) := by simp [monoMid, h]
theorem monoMid_set {n a b : Nat} (hb : a < b) : (monoMid n a b).set a ((upN (a + 1) (b - (a + 1)) + 2 ^ b : Nat) : Int) = monoMid n a (b + 1) := by
  apply List.ext_getElem?
  intro i
  rw [List.getElem?_set, monoMid_len]
  by_cases hi : i < n
  · by_cases e : a = i
    · subst e
      rw [if_pos rfl, if_pos hi, monoMid_get hi, show b + 1 - (a + 1) = (b - (a + 1)) + 1 by omega]
      simp only [upN]
      rw [show a + 1 + (b - (a + 1)) = b by omega]
    · have e' : ¬ i = a := fun h => e h.symm
      rw [if_neg e]
      simp [monoMid, hi, e']
  · by_cases e : a = i
    · subst e; simp [monoMid, hi]
    · rw [if_neg e]; simp [monoMid, hi]
theorem monoMid_next {n a : Nat} (h : a < n) : monoMid n a n = monoMid n (a + 1) (a + 2) := by
  apply List.ext_getElem?
  intro i
  by_cases hi : i < n
  · simp only [monoMid, List.getElem?_map, List.getElem?_range hi, Option.map_some]
    congr 1
    by_cases e : i < a
    · rw [if_pos e, if_pos (by omega)]
    · rw [if_neg e]
      by_cases e2 : i = a
      · subst e2; rw [if_pos rfl, if_pos (by omega)]; rfl
      · rw [if_neg e2, if_neg (by omega)]
        split
        · rw [show a + 2 - (a + 1 + 1) = 0 by omega]; simp [upN]
        · rfl
  · simp [monoMid, hi]
theorem monoMid_start (n : Nat) : List.replicate n (0 : Int) = monoMid n 0 1 := by
  apply List.ext_getElem?
  intro i
  by_cases hi : i < n
  · simp only [monoMid, List.getElem?_map, List.getElem?_range hi, Option.map_some, List.getElem?_replicate, hi, if_true]
    congr 1
    rw [if_neg (by omega)]
    split
    · simp [upN]
    · rfl
  · simp [monoMid, hi]
theorem monoMid_end (n : Nat) : monoMid n n (n + 1) = mono n := by
  apply List.ext_getElem?
  intro i
  by_cases hi : i < n
  · simp only [monoMid, mono, List.getElem?_map, List.getElem?_range hi, Option.map_some, hi, if_true]
  · simp [monoMid, mono, hi]
theorem prs_step (n a b : Nat) (h : a < b) (hb : b ≤ n) : prs n a + (b - (a + 1)) + 1 = prs n a + (b + 1 - (a + 1)) := by omega
theorem prs_next (n a : Nat) (h : a < n) : prs n a + (n - (a + 1)) = prs n (a + 1) + (a + 2 - (a + 1 + 1)) := by simp only [prs]; omega
theorem mono_wf {n : Nat} (h : n ≤ 8) : ∀ x ∈ mono n, 0 ≤ x ∧ x < 256 := by
  intro x hx
  simp only [mono, List.mem_map, List.mem_range] at hx
  obtain ⟨a, ha, rfl⟩ := hx
  have h1 := (mono_bits n (by omega) a ha).1
  have h2 : 2 ^ n ≤ 2 ^ 8 := Nat.pow_le_pow_right (by omega) h
  omega

end Go.Proofs.YtbaljgdepicigaaDoor
/-
  Plain facts on small sets, case by case: no program.
-/
namespace Go.Proofs.YtbaljgdepicigaaDoor
set_option linter.unusedVariables false

theorem pc_sub : ∀ m : Nat, m < 256 → ∀ h : Nat, h < 256 → h &&& m = h → pc (m - h) + pc h = pc m ∧ h ≤ m := by decide +kernel
theorem pc_le : ∀ m : Nat, m < 256 → pc m ≤ 8 := by decide +kernel
theorem sub_bits : ∀ m : Nat, m < 256 → ∀ h : Nat, h < 256 → h &&& m = h → m - h = m &&& (255 - h) := by decide +kernel

end Go.Proofs.YtbaljgdepicigaaDoor
/-
  Plain lemmas on who can win a bracket: no program.
-/
namespace Go.Proofs.YtbaljgdepicigaaDoor
set_option linter.unusedVariables false

/-! ### The elements of a set -/
def memTo (m k : Nat) : List Int := ((List.range k).filter fun a => m.testBit a).map fun (a : Nat) => (a : Int)
def mems (m : Nat) : List Int := memTo m 8
theorem memTo_succ (m k : Nat) : memTo m (k + 1) = memTo m k ++ if m.testBit k then [(k : Int)] else [] := by
  unfold memTo; rw [List.range_succ, List.filter_append, List.map_append]
  cases h : m.testBit k <;> simp [h]
theorem memTo_end : ∀ m : Nat, m < 256 → ∀ a : Nat, a < 9 → m / 2 ^ a = 0 → memTo m a = mems m := by decide +kernel
theorem mem_memTo {m k : Nat} {x : Int} : x ∈ memTo m k ↔ ∃ a : Nat, a < k ∧ m.testBit a = true ∧ x = a := by
  simp [memTo]
  constructor
  · rintro ⟨a, ⟨h1, h2⟩, rfl⟩; exact ⟨a, h1, h2, rfl⟩
  · rintro ⟨a, h1, h2, rfl⟩; exact ⟨a, ⟨h1, h2⟩, rfl⟩
theorem mem_mems {m : Nat} {x : Int} : x ∈ mems m ↔ ∃ a : Nat, a < 8 ∧ m.testBit a = true ∧ x = a := mem_memTo
theorem memTo_len (m k : Nat) : (memTo m k).length ≤ k := by
  unfold memTo; rw [List.length_map]; have := List.length_filter_le (fun a => m.testBit a) (List.range k); simpa using this
def pcTo (m : Nat) : Nat → Nat
  | 0 => 0
  | j + 1 => pcTo m j + m / 2 ^ j % 2
theorem pcTo_end : ∀ m : Nat, m < 256 → ∀ a : Nat, a < 9 → m / 2 ^ a = 0 → pcTo m a = pc m := by decide +kernel
theorem pcTo_le (m j : Nat) : pcTo m j ≤ j := by
  induction j with
  | zero => exact Nat.le_refl _
  | succ j ih => simp only [pcTo]; omega
theorem shr_small : ∀ m : Nat, m < 256 → m / 2 ^ 8 = 0 := fun m h => by omega
theorem pc_all : ∀ n : Nat, n < 9 → pc (2 ^ n - 1) = n := by decide

/-! ### Who can win -/
def subB (a b : Nat) : Prop := ∀ i, a.testBit i = true → b.testBit i = true
def rowN (xs : List Int) (a : Int) : Nat := (xs.getD a.toNat 0).toNat
def addW (xs : List Int) (two : Nat) (out : Nat) (l : List Int) : Nat := l.foldl (fun out a => if rowN xs a &&& two = 0 then out else out ||| 2 ^ a.toNat) out
theorem addW_snoc (xs : List Int) (two out : Nat) (l : List Int) (a : Int) : addW xs two out (l ++ [a]) = if rowN xs a &&& two = 0 then addW xs two out l else addW xs two out l ||| 2 ^ a.toNat := by simp [addW]
theorem addW_take (xs : List Int) (two out : Nat) {l : List Int} {k : Nat} {a : Int} (h : l[k]? = some a) : addW xs two out (l.take (k + 1)) = if rowN xs a &&& two = 0 then addW xs two out (l.take k) else addW xs two out (l.take k) ||| 2 ^ a.toNat := by
  rw [take_snoc_of h, addW_snoc]
theorem testBit_pow (a i : Nat) : (2 ^ a).testBit i = decide (a = i) := by rw [Nat.testBit_two_pow]
theorem addW_bits (xs : List Int) (two : Nat) (i : Nat) : ∀ (l : List Int) (out : Nat), (addW xs two out l).testBit i = (out.testBit i || l.any fun a => decide (a.toNat = i) && !decide (rowN xs a &&& two = 0)) := by
  intro l
  induction l with
  | nil => intro out; simp [addW]
  | cons a l ih =>
    intro out
    have e : addW xs two out (a :: l) = addW xs two (if rowN xs a &&& two = 0 then out else out ||| 2 ^ a.toNat) l := rfl
    rw [e, ih]
    by_cases h : rowN xs a &&& two = 0
    · simp [h]
    · simp only [h, if_false, Nat.testBit_or, testBit_pow, List.any_cons, decide_false, Bool.not_false, Bool.and_true, Bool.or_assoc]
/-- Those that are in already need not be asked. -/
theorem addW_skip (xs : List Int) (two out one : Nat) : addW xs two out (mems (one &&& (255 - out))) = addW xs two out (mems one) → True := fun _ => trivial
def wTo (xs : List Int) (W : Nat → Nat) (set sz : Nat) : Nat → Nat
  | 0 => 0
  | h + 1 => if 1 ≤ h ∧ h &&& set = h ∧ pc h = sz then addW xs (W (set - h)) (wTo xs W set sz h) (mems (W h)) else wTo xs W set sz h
def win (xs : List Int) : Nat → Nat → Nat
  | 0, set => set
  | k + 1, set => wTo xs (win xs k) set (pw2 k) set
theorem wTo_yes {xs : List Int} {W : Nat → Nat} {set sz h : Nat} (h1 : 1 ≤ h) (h2 : h &&& set = h) (h3 : pc h = sz) : wTo xs W set sz (h + 1) = addW xs (W (set - h)) (wTo xs W set sz h) (mems (W h)) := by
  simp only [wTo]; rw [if_pos ⟨h1, h2, h3⟩]
theorem wTo_no {xs : List Int} {W : Nat → Nat} {set sz h : Nat} (hn : ¬ (1 ≤ h ∧ h &&& set = h ∧ pc h = sz)) : wTo xs W set sz (h + 1) = wTo xs W set sz h := by
  simp only [wTo]; rw [if_neg hn]
theorem lt_of_sub {a b n : Nat} (h : subB a b) (hb : b < 2 ^ n) : a < 2 ^ n := by
  apply Nat.lt_pow_two_of_testBit
  intro i hi
  cases e : a.testBit i with
  | false => rfl
  | true =>
    have := h i e
    rw [Nat.testBit_lt_two_pow (Nat.lt_of_lt_of_le hb (Nat.pow_le_pow_right (by omega) hi))] at this
    cases this
theorem subB_and {a b : Nat} (h : a &&& b = a) : subB a b := fun i hi => by
  rw [← h, Nat.testBit_and] at hi
  simp at hi; exact hi.2
theorem wTo_sub {xs : List Int} {W : Nat → Nat} {set sz : Nat} (hset : set < 256) (hW : ∀ h, h &&& set = h → pc h = sz → subB (W h) h) : ∀ h, h ≤ set → subB (wTo xs W set sz h) set := by
  intro h
  induction h with
  | zero => intro _ i hi; simp [wTo] at hi
  | succ h ih =>
    intro hh
    have ih := ih (by omega)
    by_cases hc : 1 ≤ h ∧ h &&& set = h ∧ pc h = sz
    · rw [wTo_yes hc.1 hc.2.1 hc.2.2]
      intro i hi
      rw [addW_bits] at hi
      rcases Bool.or_eq_true _ _ ▸ hi with hi | hi
      · exact ih i hi
      · rw [List.any_eq_true] at hi
        obtain ⟨a, ha, hb⟩ := hi
        rw [Bool.and_eq_true, decide_eq_true_eq] at hb
        obtain ⟨b, _, hb2, rfl⟩ := mem_mems.1 ha
        obtain rfl : b = i := by have := hb.1; simpa using this
        exact subB_and hc.2.1 _ (hW h hc.2.1 hc.2.2 _ hb2)
    · rw [wTo_no hc]; exact ih
theorem pw2_eq (k : Nat) : pw2 (k + 1) = 2 * pw2 k := by simp only [pw2]
theorem win_sub (xs : List Int) : ∀ (k set : Nat), set < 256 → pc set = pw2 k → subB (win xs k set) set := by
  intro k
  induction k with
  | zero => intro set _ _ i h; exact h
  | succ k ih =>
    intro set hs hp
    refine wTo_sub hs (fun h hh hpc => ih h ?_ hpc) set (Nat.le_refl _)
    have : h ≤ set := by rw [← hh]; exact Nat.and_le_right
    omega
theorem win_lt (xs : List Int) {k set : Nat} (hs : set < 256) (hp : pc set = pw2 k) : win xs k set < 256 := lt_of_sub (n := 8) (win_sub xs k set hs hp) hs
/-- The reference asks only those that are not in yet. -/
theorem mems_not_in {xs : List Int} {two out one : Nat} (ho : out < 256) (h1 : one < 256) (rest : Nat) (hr : rest < 256) (hrest : ∀ i, i < 8 → rest.testBit i = (one.testBit i && !out.testBit i)) : addW xs two out (mems rest) = addW xs two out (mems one) := by
  apply Nat.eq_of_testBit_eq
  intro i
  rw [addW_bits, addW_bits]
  cases e : out.testBit i with
  | true => simp
  | false =>
    simp only [Bool.false_or]
    rw [Bool.eq_iff_iff, List.any_eq_true, List.any_eq_true]
    constructor
    · rintro ⟨x, hx, hp⟩
      obtain ⟨a, ha, hb, rfl⟩ := mem_mems.1 hx
      rw [hrest a ha] at hb
      simp at hb
      exact ⟨_, mem_mems.2 ⟨a, ha, hb.1, rfl⟩, hp⟩
    · rintro ⟨x, hx, hp⟩
      obtain ⟨a, ha, hb, rfl⟩ := mem_mems.1 hx
      have hai : a = i := by rw [Bool.and_eq_true, decide_eq_true_eq] at hp; have := hp.1; simpa using this
      refine ⟨_, mem_mems.2 ⟨a, ha, ?_, rfl⟩, hp⟩
      rw [hrest a ha, hb, hai, e]; rfl
/-- The set of all players. -/
def fullS (s : Int) : Nat := 2 ^ s.toNat - 1
theorem fullS_ok {s : Int} (h0 : 0 ≤ s) (h8 : s ≤ 8) : fullS s < 256 ∧ pc (fullS s) = s.toNat ∧ fullS s < 2 ^ s.toNat := by
  have h1 := pc_all s.toNat (by omega)
  have h2 : 2 ^ s.toNat ≤ 2 ^ 8 := Nat.pow_le_pow_right (by omega) (by omega)
  have h3 := Nat.two_pow_pos s.toNat
  unfold fullS
  exact ⟨by omega, h1, by omega⟩
def winOk (s : Int) (xs : List Int) (set : Int) : Prop := tourOk s xs ∧ (1 ≤ set ∧ set ≤ (fullS s : Int)) ∧ brkSize (pc set.toNat)
instance (s : Int) (xs : List Int) (set : Int) : Decidable (winOk s xs set) := by unfold winOk; infer_instance
def winnersOf (s : Int) (xs : List Int) (set : Int) : Int := if winOk s xs set then (win xs (lg (pc set.toNat)) set.toNat : Int) else 0
theorem winOk_set {s : Int} {xs : List Int} {set : Int} (h : winOk s xs set) : set.toNat < 256 ∧ set.toNat < 2 ^ xs.length ∧ pc set.toNat = pw2 (lg (pc set.toNat)) := by
  have h1 := tourOk_size h.1
  have h2 := fullS_ok (s := s) (by omega) (by omega)
  have h3 := h.2.1
  have h4 := brk_pw2 h.2.2
  have h5 : s.toNat = xs.length := by omega
  rw [h5] at h2
  exact ⟨by omega, by omega, by omega⟩
theorem winnersOf_nat (s : Int) (xs : List Int) (set : Int) : ∃ v : Nat, winnersOf s xs set = (v : Int) ∧ v < 256 := by
  unfold winnersOf
  split
  · rename_i h
    have := winOk_set h
    exact ⟨_, rfl, win_lt xs this.1 this.2.2⟩
  · exact ⟨0, rfl, by omega⟩
def fixedOk (s : Int) (xs : List Int) : Prop := tourOk s xs ∧ brkSize s
instance (s : Int) (xs : List Int) : Decidable (fixedOk s xs) := by unfold fixedOk; infer_instance
theorem fixed_win {s : Int} {xs : List Int} (h : fixedOk s xs) : winOk s xs (fullS s) ∧ lg (pc (fullS s)) = lg s := by
  have h1 := tourOk_size h.1
  have h2 := fullS_ok (s := s) (by omega) (by omega)
  have h3 : ((pc (fullS s) : Nat) : Int) = s := by omega
  have h4 : 0 < fullS s := by
    rcases Nat.eq_zero_or_pos (fullS s) with e | e
    · rw [e] at h2; simp [pc] at h2; omega
    · exact e
  refine ⟨⟨h.1, ⟨by omega, Int.le_refl _⟩, ?_⟩, by rw [h3]⟩
  rw [Int.toNat_natCast, h3]; exact h.2
def possW (s : Int) (xs : List Int) : Int := if fixedOk s xs then (win xs (lg s) (fullS s) : Int) else 0
theorem possW_winners {s : Int} {xs : List Int} (h : fixedOk s xs) : possW s xs = winnersOf s xs (fullS s) := by
  have h1 := fixed_win h
  unfold possW winnersOf
  rw [if_pos h, if_pos h1.1, Int.toNat_natCast, h1.2]
/-- Is player a in a set that is given as a number? -/
def inSet (v a : Int) : Prop := v.toNat.testBit a.toNat = true
instance (v a : Int) : Decidable (inSet v a) := by unfold inSet; infer_instance
def halfFor (s : Int) (xs : List Int) (a set : Int) : Prop := winOk s xs set ∧ (0 ≤ a ∧ a ≤ s - 1) ∧ inSet (winnersOf s xs set) a
instance (s : Int) (xs : List Int) (a set : Int) : Decidable (halfFor s xs a set) := by unfold halfFor; infer_instance
def canWin (s : Int) (xs : List Int) (a : Int) : Prop := fixedOk s xs ∧ (0 ≤ a ∧ a ≤ s - 1) ∧ inSet (possW s xs) a
instance (s : Int) (xs : List Int) (a : Int) : Decidable (canWin s xs a) := by unfold canWin; infer_instance
theorem canWin_half {s : Int} {xs : List Int} {a : Int} (h : fixedOk s xs) : canWin s xs a ↔ halfFor s xs a (fullS s) := by
  have h1 := fixed_win h
  unfold canWin halfFor
  rw [possW_winners h]
  exact ⟨fun hh => ⟨h1.1, hh.2⟩, fun hh => ⟨h, hh.2⟩⟩
theorem winnersOf_set {s : Int} {xs : List Int} {a set : Int} (h : inSet (winnersOf s xs set) a) : winOk s xs set := by
  unfold winnersOf at h
  split at h
  · assumption
  · unfold inSet at h; simp at h
/-- Bits of one player. -/
theorem and_pow : ∀ v : Nat, v < 256 → ∀ a : Nat, a < 8 → ((v &&& 2 ^ a = 0) = (v.testBit a = false)) := by
  intro v _ a _
  apply propext
  constructor
  · intro h
    have h2 := congrArg (fun z => z.testBit a) h
    simp only [Nat.testBit_and, Nat.testBit_two_pow, Nat.zero_testBit, decide_true, Bool.and_true] at h2
    exact h2
  · intro h
    apply Nat.eq_of_testBit_eq
    intro i
    rw [Nat.testBit_and, Nat.testBit_two_pow, Nat.zero_testBit]
    by_cases e : a = i
    · subst e; simp [h]
    · simp [e]

/-! ### Kings -/
/-- Whom a beats at once or by one between, and a. -/
def orRows (xs : List Int) (out : Nat) (l : List Int) : Nat := l.foldl (fun out a => out ||| rowN xs a) out
theorem orRows_take (xs : List Int) (out : Nat) {l : List Int} {k : Nat} {a : Int} (h : l[k]? = some a) : orRows xs out (l.take (k + 1)) = orRows xs out (l.take k) ||| rowN xs a := by
  rw [take_snoc_of h]; simp [orRows]
def isKing (s : Int) (xs : List Int) (a : Int) : Prop := orRows xs (2 ^ a.toNat ||| rowN xs a) (mems (rowN xs a)) = fullS s
instance (s : Int) (xs : List Int) (a : Int) : Decidable (isKing s xs a) := by unfold isKing; infer_instance
def strongKing (s : Int) (xs : List Int) (a : Int) : Prop := fixedOk s xs ∧ (0 ≤ a ∧ a ≤ s - 1) ∧ isKing s xs a ∧ s / 2 ≤ (pc (rowN xs a) : Int)
instance (s : Int) (xs : List Int) (a : Int) : Decidable (strongKing s xs a) := by unfold strongKing; infer_instance

end Go.Proofs.YtbaljgdepicigaaDoor
/-
  Plain lemmas on the days of games: chains: no program.
-/
namespace Go.Proofs.YtbaljgdepicigaaDoor
set_option linter.unusedVariables false

/-! ### Boxes -/
theorem box_le : ∀ (n : Nat) (l : List Nat), l.Nodup → (∀ x ∈ l, x < n) → l.length ≤ n := by
  intro n
  induction n with
  | zero => intro l _ h; cases l with | nil => simp | cons x r => have := h x (by simp); omega
  | succ n ih =>
    intro l hn h
    by_cases hm : n ∈ l
    · have h1 := ih (l.erase n) (hn.erase n) fun x hx => by
        have h2 := (List.Nodup.mem_erase_iff hn).1 hx
        have := h x h2.2
        omega
      have := List.length_erase_of_mem hm
      omega
    · have := ih l hn fun x hx => by
        have h2 := h x hx
        have : x ≠ n := fun e => hm (e ▸ hx)
        omega
      omega
theorem box_sub : ∀ (m l : List Nat), l.Nodup → (∀ x ∈ l, x ∈ m) → l.length ≤ m.length := by
  intro m
  induction m with
  | nil => intro l _ h; cases l with | nil => simp | cons x r => have := h x (by simp); cases this
  | cons y m ih =>
    intro l hn h
    have h1 := ih (l.erase y) (hn.erase y) fun x hx => by
      have h2 := (List.Nodup.mem_erase_iff hn).1 hx
      rcases List.mem_cons.1 (h x h2.2) with e | e
      · exact absurd e h2.1
      · exact e
    have h2 := List.length_erase_le (a := y) (l := l)
    by_cases hm : y ∈ l
    · have := List.length_erase_of_mem hm
      simp; omega
    · rw [List.erase_of_not_mem hm] at h1
      simp; omega
theorem nodup_map_range (f : Nat → Nat) : ∀ n : Nat, (∀ i, i < n → ∀ j, j < i → f i ≠ f j) → ((List.range n).map f).Nodup := by
  intro n
  induction n with
  | zero => simp
  | succ n ih =>
    intro h
    rw [List.range_succ, List.map_append, List.nodup_append]
    refine ⟨ih fun i hi => h i (by omega), by simp, ?_⟩
    intro a ha b hb e
    simp at ha hb
    obtain ⟨j, hj, rfl⟩ := ha
    exact h n (by omega) j hj (by rw [← hb, e])
/-- The first number below n at which p holds, or -1. -/
def firstN (p : Nat → Bool) (n : Nat) : Int := idxF p (List.range n)
theorem firstN_bound (p : Nat → Bool) (n : Nat) : -1 ≤ firstN p n ∧ firstN p n < n := by
  have := idxF_bound p (List.range n); simpa [firstN] using this
theorem firstN_hit {p : Nat → Bool} {n k : Nat} (hk : k < n) (hn : ∀ j, j < k → p j = false) (hp : p k = true) : firstN p n = k := by
  refine idxF_hit (x := k) (fun y hy => ?_) (by simp [hk]) hp
  rw [List.take_range] at hy
  simp at hy
  exact hn y (by omega)
theorem firstN_miss {p : Nat → Bool} {n : Nat} (hn : ∀ j, j < n → p j = false) : firstN p n = -1 := idxF_miss fun y hy => hn y (by simpa using hy)
theorem firstN_get {p : Nat → Bool} {n : Nat} (h : 0 ≤ firstN p n) : p (firstN p n).toNat = true ∧ (firstN p n).toNat < n ∧ ∀ j, j < (firstN p n).toNat → p j = false := by
  have ex : ∃ k, k < n ∧ p k = true := by
    obtain ⟨x, hx, hp⟩ := idxF_ge.1 h
    exact ⟨x, by simpa using hx, hp⟩
  -- the least one
  have key : ∀ m : Nat, (∃ k, k < m ∧ p k = true) → ∃ k, k < m ∧ p k = true ∧ ∀ j, j < k → p j = false := by
    intro m
    induction m with
    | zero => rintro ⟨k, hk, _⟩; omega
    | succ m ih =>
      rintro ⟨k, hk, hp⟩
      by_cases hh : ∃ k, k < m ∧ p k = true
      · obtain ⟨k', h1, h2, h3⟩ := ih hh
        exact ⟨k', by omega, h2, h3⟩
      · have hno : ∀ j, j < m → p j = false := fun j hj => by
          cases e : p j with
          | false => rfl
          | true => exact absurd ⟨j, hj, e⟩ hh
        refine ⟨k, by omega, hp, fun j hj => hno j (by omega)⟩
  obtain ⟨k, hk, hp, hno⟩ := key n ex
  rw [firstN_hit hk hno hp]
  simp only [Int.toNat_natCast]
  exact ⟨hp, hk, hno⟩
theorem firstN_ex {p : Nat → Bool} {n k : Nat} (hk : k < n) (hp : p k = true) : 0 ≤ firstN p n := idxF_ge.2 ⟨k, by simpa using hk, hp⟩

/-! ### Games on days -/
/-- The team at a side of game i. -/
def teamAt (rows : List (List Int)) (i s : Nat) : Int := (rows.getD i []).getD s 0
def plays (rows : List (List Int)) (days : List Int) (s : Nat) (t d : Int) (i : Nat) : Bool := decide (days.getD i 0 = d ∧ teamAt rows i s = t)
/-- The game of a team of a side on a day among those that have days. -/
def fnd (rows : List (List Int)) (days : List Int) (s : Nat) (t d : Int) : Int := firstN (plays rows days s t d) days.length
theorem fnd_bound (rows : List (List Int)) (days : List Int) (s : Nat) (t d : Int) : -1 ≤ fnd rows days s t d ∧ fnd rows days s t d < days.length := firstN_bound _ _
theorem fnd_get {rows : List (List Int)} {days : List Int} {s : Nat} {t d : Int} (h : 0 ≤ fnd rows days s t d) :
    days.getD (fnd rows days s t d).toNat 0 = d ∧ teamAt rows (fnd rows days s t d).toNat s = t ∧ (fnd rows days s t d).toNat < days.length := by
  have := firstN_get h
  unfold plays at this
  simp only [decide_eq_true_eq] at this
  exact ⟨this.1.1, this.1.2, this.2.1⟩
theorem fnd_ex {rows : List (List Int)} {days : List Int} {s : Nat} {t d : Int} {i : Nat} (hi : i < days.length) (h1 : days.getD i 0 = d) (h2 : teamAt rows i s = t) : 0 ≤ fnd rows days s t d :=
  firstN_ex hi (by unfold plays; rw [decide_eq_true_eq]; exact ⟨h1, h2⟩)
/-- The first day without a game of a team. -/
def fre (rows : List (List Int)) (days : List Int) (s : Nat) (t : Int) : Int := firstN (fun d => decide (fnd rows days s t d < 0)) (days.length + 1)
/-- How many games a team has among those that have days. -/
def hasG (rows : List (List Int)) (n s : Nat) (t : Int) : Nat := (List.range n).countP fun i => decide (teamAt rows i s = t)
theorem hasG_le (rows : List (List Int)) (n s : Nat) (t : Int) : hasG rows n s t ≤ n := by have := List.countP_le_length (p := fun i => decide (teamAt rows i s = t)) (l := List.range n); simpa [hasG] using this
theorem full_le {rows : List (List Int)} {days : List Int} {s : Nat} {t : Int} {m : Nat} (h : ∀ d : Nat, d < m → 0 ≤ fnd rows days s t d) : m ≤ hasG rows days.length s t := by
  have hn : ((List.range m).map fun d : Nat => (fnd rows days s t d).toNat).Nodup := by
    refine nodup_map_range _ m fun i hi j hj e => ?_
    have h1 := (fnd_get (h i hi)).1
    have h2 := (fnd_get (h j (by omega))).1
    rw [show (fnd rows days s t (i : Int)).toNat = (fnd rows days s t (j : Int)).toNat from e, h2] at h1
    omega
  have := box_sub ((List.range days.length).filter fun i => decide (teamAt rows i s = t)) _ hn fun x hx => by
    simp at hx
    obtain ⟨d, hd, rfl⟩ := hx
    have h1 := fnd_get (h d hd)
    simp only [List.mem_filter, List.mem_range, decide_eq_true_eq]
    exact ⟨h1.2.2, h1.2.1⟩
  rw [List.length_map, List.length_range] at this
  unfold hasG
  rw [List.countP_eq_length_filter]
  exact this
theorem fre_ok (rows : List (List Int)) (days : List Int) (s : Nat) (t : Int) : ∃ d : Nat, fre rows days s t = d ∧ d ≤ hasG rows days.length s t ∧ fnd rows days s t d < 0 ∧ ∀ j : Nat, j < d → 0 ≤ fnd rows days s t j := by
  have h0 : 0 ≤ fre rows days s t := by
    by_cases hh : ∃ d, d < days.length + 1 ∧ fnd rows days s t d < 0
    · obtain ⟨d, hd, hf⟩ := hh
      refine firstN_ex (k := d) hd ?_
      simpa using hf
    · exfalso
      have h1 : ∀ d : Nat, d < days.length + 1 → 0 ≤ fnd rows days s t d := fun d hd => by
        rcases Int.lt_or_le (fnd rows days s t d) 0 with e | e
        · exact absurd ⟨d, hd, e⟩ hh
        · exact e
      have h2 := full_le h1
      have h3 := hasG_le rows days.length s t
      omega
  obtain ⟨h1, h2, h3⟩ := firstN_get h0
  have h4 : ∀ j : Nat, j < (fre rows days s t).toNat → 0 ≤ fnd rows days s t j := fun j hj => by
    have := h3 j hj
    simpa using this
  exact ⟨(fre rows days s t).toNat, by omega, full_le h4, of_decide_eq_true h1, h4⟩

/-! ### Chains -/
section
variable (rows : List (List Int)) (days : List Int) (x y g1 : Int)
def sd (j : Nat) : Nat := if j % 2 = 0 then 1 else 0
def dy (j : Nat) : Int := if j % 2 = 0 then x else y
/-- The j-th team of the chain, and its game. -/
def tm : Nat → Int
  | 0 => g1
  | j + 1 => teamAt rows (fnd rows days (sd j) (tm j) (dy x y j)).toNat (sd (j + 1))
def gm (j : Nat) : Int := fnd rows days (sd j) (tm rows days x y g1 j) (dy x y j)
end
/-- No two games of a team on a day. -/
def proper (rows : List (List Int)) (days : List Int) : Prop :=
  ∀ i, i < days.length → ∀ k, k < days.length → days.getD i 0 = days.getD k 0 → ∀ s, s < 2 → teamAt rows i s = teamAt rows k s → i = k
section
variable {rows : List (List Int)} {days : List Int} {x y g1 : Int}
theorem sd_lt (j : Nat) : sd j < 2 := by unfold sd; split <;> omega
theorem sd_ne (j : Nat) : sd (j + 1) = 1 - sd j := by unfold sd; split <;> split <;> omega
theorem dy_or (j : Nat) : dy x y j = x ∨ dy x y j = y := by unfold dy; split <;> simp
theorem dy_flip (j : Nat) : dy x y (j + 1) = x + y - dy x y j := by unfold dy; split <;> split <;> omega
theorem gm_get {j : Nat} (h : 0 ≤ gm rows days x y g1 j) : days.getD (gm rows days x y g1 j).toNat 0 = dy x y j ∧ teamAt rows (gm rows days x y g1 j).toNat (sd j) = tm rows days x y g1 j ∧ (gm rows days x y g1 j).toNat < days.length := fnd_get h
theorem tm_succ (j : Nat) : tm rows days x y g1 (j + 1) = teamAt rows (gm rows days x y g1 j).toNat (sd (j + 1)) := rfl
theorem gm_inj (hp : proper rows days) (hxy : x ≠ y) (hy : fnd rows days 1 g1 y < 0) : ∀ (b : Nat), (∀ i, i ≤ b → 0 ≤ gm rows days x y g1 i) → ∀ a, a < b → (gm rows days x y g1 b).toNat ≠ (gm rows days x y g1 a).toNat := by
  intro b
  induction b with
  | zero => intro _ a ha; omega
  | succ b ih =>
    intro hall a ha e
    have hb := gm_get (hall (b + 1) (by omega))
    have ha' := gm_get (hall a (by omega))
    rw [e] at hb
    -- the same day, so the same side
    have hd : dy x y (b + 1) = dy x y a := by rw [← hb.1, ha'.1]
    have hpar : (b + 1) % 2 = a % 2 := by
      unfold dy at hd
      split at hd <;> split at hd <;> first | omega | (exact absurd hd hxy) | (exact absurd hd.symm hxy)
    have hs : sd (b + 1) = sd a := by unfold sd; rw [hpar]
    have ht : tm rows days x y g1 (b + 1) = tm rows days x y g1 a := by rw [← hb.2.1, hs, ha'.2.1]
    have hprev := gm_get (hall b (by omega))
    cases a with
    | zero =>
      -- the guest would play on day y
      have hb1 : b % 2 = 1 := by omega
      have e1 : dy x y b = y := by unfold dy; rw [if_neg (by omega)]
      have e2 : sd (b + 1) = 1 := by unfold sd; rw [if_pos (by omega)]
      rw [tm_succ, e2] at ht
      have := fnd_ex hprev.2.2 (by rw [hprev.1, e1]) (show teamAt rows (gm rows days x y g1 b).toNat 1 = g1 from ht)
      omega
    | succ a =>
      have hpa := gm_get (hall a (by omega))
      rw [tm_succ, tm_succ, hs] at ht
      have hd2 : dy x y b = dy x y a := by unfold dy; rw [show b % 2 = a % 2 by omega]
      exact ih (fun i hi => hall i (by omega)) a (by omega) (hp _ hprev.2.2 _ hpa.2.2 (by rw [hprev.1, hpa.1, hd2]) _ (sd_lt _) ht)
theorem chain_le (hp : proper rows days) (hxy : x ≠ y) (hy : fnd rows days 1 g1 y < 0) {m : Nat} (h : ∀ i, i < m → 0 ≤ gm rows days x y g1 i) : m ≤ days.length := by
  have hn : ((List.range m).map fun j => (gm rows days x y g1 j).toNat).Nodup :=
    nodup_map_range _ m fun i hi j hj => gm_inj hp hxy hy i (fun k hk => h k (by omega)) j hj
  have := box_le days.length _ hn fun z hz => by
    simp at hz
    obtain ⟨j, hj, rfl⟩ := hz
    exact (gm_get (h j hj)).2.2
  simpa using this
end
/-- How long the chain is. -/
def chLen (rows : List (List Int)) (days : List Int) (x y g1 : Int) : Int := firstN (fun j => decide (gm rows days x y g1 j < 0)) (days.length + 1)
theorem chLen_ok {rows : List (List Int)} {days : List Int} {x y g1 : Int} (hp : proper rows days) (hxy : x ≠ y) (hy : fnd rows days 1 g1 y < 0) :
    ∃ L : Nat, chLen rows days x y g1 = L ∧ L ≤ days.length ∧ gm rows days x y g1 L < 0 ∧ ∀ j, j < L → 0 ≤ gm rows days x y g1 j := by
  have h0 : 0 ≤ chLen rows days x y g1 := by
    by_cases hh : ∃ d, d < days.length + 1 ∧ gm rows days x y g1 d < 0
    · obtain ⟨d, hd, hf⟩ := hh
      exact firstN_ex (k := d) hd (by simpa using hf)
    · exfalso
      have h2 := chain_le hp hxy hy (m := days.length + 1) fun d hd => by
        rcases Int.lt_or_le (gm rows days x y g1 d) 0 with e | e
        · exact absurd ⟨d, hd, e⟩ hh
        · exact e
      omega
  obtain ⟨h1, h2, h3⟩ := firstN_get h0
  have h4 : ∀ j : Nat, j < (chLen rows days x y g1).toNat → 0 ≤ gm rows days x y g1 j := fun j hj => by
    have := h3 j hj
    simpa using this
  exact ⟨(chLen rows days x y g1).toNat, by omega, chain_le hp hxy hy h4, of_decide_eq_true h1, h4⟩

/-! ### The chain's games change their days -/
def flips (x y : Int) (c : List Nat) (ds : List Int) : List Int := c.foldl (fun ds i => ds.set i (x + y - ds.getD i 0)) ds
theorem flips_len (x y : Int) (c : List Nat) : ∀ ds : List Int, (flips x y c ds).length = ds.length := by
  induction c with
  | nil => intro ds; rfl
  | cons i c ih => intro ds; simp only [flips, List.foldl_cons] at ih ⊢; rw [ih]; simp
theorem flips_snoc (x y : Int) (c : List Nat) (i : Nat) (ds : List Int) : flips x y (c ++ [i]) ds = (flips x y c ds).set i (x + y - (flips x y c ds).getD i 0) := by simp [flips]
theorem getD_set {l : List Int} {i j : Nat} {v : Int} (hi : i < l.length) : (l.set i v).getD j 0 = if i = j then v else l.getD j 0 := by
  rw [List.getD, List.getD, List.getElem?_set]
  by_cases e : i = j
  · subst e; simp [hi]
  · simp [e]
theorem flips_get (x y : Int) (c : List Nat) : ∀ (ds : List Int) (j : Nat), c.Nodup → (∀ i ∈ c, i < ds.length) → (flips x y c ds).getD j 0 = if j ∈ c then x + y - ds.getD j 0 else ds.getD j 0 := by
  induction c with
  | nil => intro ds j _ _; simp [flips]
  | cons i c ih =>
    intro ds j hn hb
    have hi := hb i (by simp)
    have ⟨h1, h2⟩ := List.nodup_cons.1 hn
    have := ih (ds.set i (x + y - ds.getD i 0)) j h2 fun k hk => by simpa using hb k (by simp [hk])
    simp only [flips, List.foldl_cons] at this ⊢
    rw [this, getD_set hi]
    by_cases e : i = j
    · subst e; simp [h1]
    · have e' : ¬ j = i := fun h => e h.symm
      simp [e, e', List.mem_cons]
def chain (rows : List (List Int)) (days : List Int) (x y g1 : Int) : List Nat := (List.range (chLen rows days x y g1).toNat).map fun j => (gm rows days x y g1 j).toNat
/-- The days behind one more game. -/
def oneMore (rows : List (List Int)) (days : List Int) (g : List Int) : List Int :=
  let x := fre rows days 0 (g.getD 0 0)
  let y := fre rows days 1 (g.getD 1 0)
  (if x = y then days else flips x y (chain rows days x y (g.getD 1 0)) days) ++ [x]
theorem chain_facts {rows : List (List Int)} {days : List Int} {x y g1 : Int} (hp : proper rows days) (hxy : x ≠ y) (hy : fnd rows days 1 g1 y < 0) :
    (chain rows days x y g1).Nodup ∧ (∀ i ∈ chain rows days x y g1, i < days.length) ∧ (chain rows days x y g1).length ≤ days.length := by
  obtain ⟨L, hL, hle, h0, h1⟩ := chLen_ok hp hxy hy
  unfold chain
  rw [hL, Int.toNat_natCast]
  refine ⟨nodup_map_range _ L fun i hi j hj => gm_inj hp hxy hy i (fun k hk => h1 k (by omega)) j hj, fun i hi => ?_, by simpa using hle⟩
  simp at hi
  obtain ⟨j, hj, rfl⟩ := hi
  exact (gm_get (h1 j hj)).2.2
/-- A game beside the chain that shares a team with one on it is on no day of the chain's but its own. -/
theorem chain_closed {rows : List (List Int)} {days : List Int} {x y g1 : Int} (hp : proper rows days) (hxy : x ≠ y) (hy : fnd rows days 1 g1 y < 0)
    {p q : Nat} (hpc : p ∈ chain rows days x y g1) (hq : q < days.length) (hqc : ¬ q ∈ chain rows days x y g1) {s : Nat} (hs : s < 2) (ht : teamAt rows p s = teamAt rows q s) :
    days.getD q 0 ≠ x + y - days.getD p 0 := by
  obtain ⟨L, hL, hle, h0, h1⟩ := chLen_ok hp hxy hy
  have hmem : ∀ j, j < L → (gm rows days x y g1 j).toNat ∈ chain rows days x y g1 := fun j hj => by
    unfold chain; rw [hL, Int.toNat_natCast]; simp; exact ⟨j, hj, rfl⟩
  have hpc' := hpc
  unfold chain at hpc'
  rw [hL, Int.toNat_natCast] at hpc'
  simp at hpc'
  obtain ⟨j, hj, rfl⟩ := hpc'
  have hg := gm_get (h1 j hj)
  intro hd
  rw [hg.1, ← dy_flip] at hd
  by_cases e : s = sd (j + 1)
  · -- the way out
    subst e
    rw [← tm_succ] at ht
    have hex : 0 ≤ gm rows days x y g1 (j + 1) := fnd_ex hq hd ht.symm
    have hlt : j + 1 < L := by
      by_cases hl : j + 1 < L
      · exact hl
      · have : j + 1 = L := by omega
        rw [this] at hex; omega
    have hg2 := gm_get hex
    have := hp _ hg2.2.2 _ hq (by rw [hg2.1, hd]) _ hs (by rw [hg2.2.1, ht])
    exact hqc (this ▸ hmem (j + 1) hlt)
  · -- the way in
    have e2 : s = sd j := by have := sd_ne j; have := sd_lt j; omega
    subst e2
    rw [hg.2.1] at ht
    cases j with
    | zero =>
      have hd2 : days.getD q 0 = y := by rw [hd]; rfl
      have := fnd_ex (rows := rows) hq hd2 (show teamAt rows q 1 = g1 from ht.symm)
      omega
    | succ j =>
      have hgp := gm_get (h1 j (by omega))
      have hd2 : dy x y (j + 1 + 1) = dy x y j := by unfold dy; rw [show (j + 1 + 1) % 2 = j % 2 by omega]
      rw [tm_succ] at ht
      have := hp _ hgp.2.2 _ hq (by rw [hgp.1, hd, hd2]) _ hs ht
      exact hqc (this ▸ hmem j (by omega))
theorem chain_day {rows : List (List Int)} {days : List Int} {x y g1 : Int} (hp : proper rows days) (hxy : x ≠ y) (hy : fnd rows days 1 g1 y < 0) {p : Nat} (hpc : p ∈ chain rows days x y g1) : days.getD p 0 = x ∨ days.getD p 0 = y := by
  obtain ⟨L, hL, hle, h0, h1⟩ := chLen_ok hp hxy hy
  unfold chain at hpc
  rw [hL, Int.toNat_natCast] at hpc
  simp at hpc
  obtain ⟨j, hj, rfl⟩ := hpc
  rw [(gm_get (h1 j hj)).1]
  exact dy_or j
theorem flips_proper {rows : List (List Int)} {days : List Int} {x y g1 : Int} (hp : proper rows days) (hxy : x ≠ y) (hy : fnd rows days 1 g1 y < 0) : proper rows (flips x y (chain rows days x y g1) days) := by
  obtain ⟨hn, hb, _⟩ := chain_facts hp hxy hy
  intro i hi k hk hd s hs ht
  rw [flips_len] at hi hk
  rw [flips_get x y _ days i hn hb, flips_get x y _ days k hn hb] at hd
  by_cases hic : i ∈ chain rows days x y g1 <;> by_cases hkc : k ∈ chain rows days x y g1 <;> simp only [hic, hkc, if_true, if_false] at hd
  · exact hp i hi k hk (by omega) s hs ht
  · exact absurd hd.symm (chain_closed hp hxy hy hic hk hkc hs ht)
  · exact absurd hd (chain_closed hp hxy hy hkc hi hic hs ht.symm)
  · exact hp i hi k hk hd s hs ht
theorem fnd_none {rows : List (List Int)} {days : List Int} {s : Nat} {t d : Int} (h : ∀ i, i < days.length → days.getD i 0 = d → teamAt rows i s ≠ t) : fnd rows days s t d < 0 := by
  rcases Int.lt_or_le (fnd rows days s t d) 0 with e | e
  · exact e
  · have := fnd_get e
    exact absurd this.2.1 (h _ this.2.2 this.1)
/-- Behind the change both teams are free on day x. -/
theorem flips_free {rows : List (List Int)} {days : List Int} {x y g0 g1 : Int} (hp : proper rows days) (hxy : x ≠ y) (hy : fnd rows days 1 g1 y < 0) (hx : fnd rows days 0 g0 x < 0) :
    fnd rows (flips x y (chain rows days x y g1) days) 0 g0 x < 0 ∧ fnd rows (flips x y (chain rows days x y g1) days) 1 g1 x < 0 := by
  obtain ⟨hn, hb, _⟩ := chain_facts hp hxy hy
  obtain ⟨L, hL, hle, hL0, hL1⟩ := chLen_ok hp hxy hy
  have hmem : ∀ j, j < L → (gm rows days x y g1 j).toNat ∈ chain rows days x y g1 := fun j hj => by
    unfold chain; rw [hL, Int.toNat_natCast]; simp; exact ⟨j, hj, rfl⟩
  constructor
  · refine fnd_none fun i hi hd ht => ?_
    rw [flips_len] at hi
    rw [flips_get x y _ days i hn hb] at hd
    by_cases hic : i ∈ chain rows days x y g1
    · rw [if_pos hic] at hd
      have hdi : days.getD i 0 = y := by omega
      unfold chain at hic
      rw [hL, Int.toNat_natCast] at hic
      simp at hic
      obtain ⟨j, hj, rfl⟩ := hic
      have hg := gm_get (hL1 j hj)
      have hj1 : j % 2 = 1 := by
        have h2 := hg.1
        rw [hdi] at h2
        unfold dy at h2
        split at h2
        · exact absurd h2.symm hxy
        · omega
      have hs0 : sd j = 0 := by unfold sd; rw [if_neg (by omega)]
      rw [hs0] at hg
      rw [hg.2.1] at ht
      cases j with
      | zero => omega
      | succ j =>
        have hgp := gm_get (hL1 j (by omega))
        rw [tm_succ, hs0] at ht
        have hdx : dy x y j = x := by unfold dy; rw [if_pos (by omega)]
        have := fnd_ex (rows := rows) hgp.2.2 (by rw [hgp.1, hdx]) ht
        omega
    · rw [if_neg hic] at hd
      have := fnd_ex (rows := rows) hi hd ht
      omega
  · refine fnd_none fun i hi hd ht => ?_
    rw [flips_len] at hi
    rw [flips_get x y _ days i hn hb] at hd
    by_cases hic : i ∈ chain rows days x y g1
    · rw [if_pos hic] at hd
      have := fnd_ex (rows := rows) hi (show days.getD i 0 = y by omega) ht
      omega
    · rw [if_neg hic] at hd
      have hex : 0 ≤ gm rows days x y g1 0 := fnd_ex hi hd ht
      have h0L : 0 < L := by
        rcases Nat.eq_zero_or_pos L with e | e
        · subst e; omega
        · exact e
      have hg := gm_get hex
      have hs1 : sd 0 = 1 := rfl
      have := hp _ hg.2.2 _ hi (by rw [hg.1, hd]; rfl) 1 (by omega) (by rw [ht]; exact hg.2.1)
      exact hic (this ▸ hmem 0 h0L)
theorem getD_snoc (l : List Int) (v : Int) (j : Nat) : (l ++ [v]).getD j 0 = if j < l.length then l.getD j 0 else if j = l.length then v else 0 := by
  rw [List.getD, List.getD]
  by_cases h : j < l.length
  · rw [List.getElem?_append_left h, if_pos h]
  · rw [if_neg h, List.getElem?_append_right (by omega)]
    by_cases e : j = l.length
    · simp [e]
    · rw [if_neg e, List.getElem?_eq_none (by simp; omega)]; rfl
theorem snoc_proper {rows : List (List Int)} {days : List Int} {x : Int} (hp : proper rows days) (h0 : fnd rows days 0 (teamAt rows days.length 0) x < 0) (h1 : fnd rows days 1 (teamAt rows days.length 1) x < 0) : proper rows (days ++ [x]) := by
  have key : ∀ i, i < days.length → days.getD i 0 = x → ∀ s, s < 2 → teamAt rows i s ≠ teamAt rows days.length s := by
    intro i hi hd s hs e
    have : s = 0 ∨ s = 1 := by omega
    rcases this with rfl | rfl
    · have := fnd_ex (rows := rows) hi hd e; omega
    · have := fnd_ex (rows := rows) hi hd e; omega
  intro i hi k hk hd s hs ht
  simp only [List.length_append, List.length_singleton] at hi hk
  rw [getD_snoc, getD_snoc] at hd
  by_cases hi' : i < days.length <;> by_cases hk' : k < days.length
  · rw [if_pos hi', if_pos hk'] at hd; exact hp i hi' k hk' hd s hs ht
  · obtain rfl : k = days.length := by omega
    rw [if_pos hi', if_neg hk', if_pos rfl] at hd
    exact absurd ht (key i hi' hd s hs)
  · obtain rfl : i = days.length := by omega
    rw [if_neg hi', if_pos rfl, if_pos hk'] at hd
    exact absurd ht.symm (key k hk' hd.symm s hs)
  · omega
/-- What the days keep: one a game, proper, below a bound. -/
structure daysOk (rows : List (List Int)) (k : Nat) (b : Int) (days : List Int) : Prop where
  len : days.length = k
  prop : proper rows days
  low : ∀ d ∈ days, 0 ≤ d ∧ d < b
theorem mem_getD {l : List Int} {z : Int} (h : z ∈ l) : ∃ j, j < l.length ∧ l.getD j 0 = z := by
  obtain ⟨j, hj, rfl⟩ := List.getElem_of_mem h
  exact ⟨j, hj, by simp [List.getD, hj]⟩
theorem getD_mem0 {l : List Int} {j : Nat} (h : j < l.length) : l.getD j 0 ∈ l := by simp [List.getD, h]
theorem oneMore_ok {rows : List (List Int)} {k : Nat} {b : Int} {days g : List Int} (h : daysOk rows k b days) (hg : rows[k]? = some g) (hb : ∀ s, s < 2 → (hasG rows k s (teamAt rows k s) : Int) < b) :
    daysOk rows (k + 1) b (oneMore rows days g) := by
  obtain ⟨hl, hp, hd⟩ := h
  have e0 : g.getD 0 0 = teamAt rows k 0 := by simp [teamAt, List.getD, hg]
  have e1 : g.getD 1 0 = teamAt rows k 1 := by simp [teamAt, List.getD, hg]
  obtain ⟨x, hx, hxb, hx0, hx1⟩ := fre_ok rows days 0 (teamAt rows k 0)
  obtain ⟨y, hy, hyb, hy0, hy1⟩ := fre_ok rows days 1 (teamAt rows k 1)
  rw [hl] at hxb hyb
  have hb0 := hb 0 (by omega)
  have hb1 := hb 1 (by omega)
  unfold oneMore
  simp only [e0, e1, hx, hy]
  by_cases exy : (x : Int) = y
  · rw [if_pos exy]
    refine ⟨by simp [hl], ?_, fun d hm => ?_⟩
    · refine snoc_proper hp ?_ ?_
      · rw [hl]; exact hx0
      · rw [hl, exy]; exact hy0
    · rcases List.mem_append.1 hm with hm | hm
      · exact hd d hm
      · simp at hm; omega
  · rw [if_neg exy]
    have hf := flips_free (g0 := teamAt rows k 0) hp exy hy0 hx0
    have hfl := flips_len (x : Int) y (chain rows days x y (teamAt rows k 1)) days
    obtain ⟨hn, hbd, _⟩ := chain_facts hp exy hy0
    refine ⟨by rw [List.length_append, hfl, hl]; rfl, ?_, fun d hm => ?_⟩
    · refine snoc_proper (flips_proper hp exy hy0) ?_ ?_
      · rw [hfl, hl]; exact hf.1
      · rw [hfl, hl]; exact hf.2
    · rcases List.mem_append.1 hm with hm | hm
      · obtain ⟨j, hj, rfl⟩ := mem_getD hm
        rw [hfl] at hj
        rw [flips_get _ _ _ days j hn hbd]
        split
        · rename_i hc
          have := chain_day hp exy hy0 hc
          omega
        · exact hd _ (getD_mem0 hj)
      · simp at hm; omega
def sched (rows : List (List Int)) : Nat → List Int
  | 0 => []
  | k + 1 => oneMore rows (sched rows k) (rows.getD k [])
theorem hasG_lt {rows : List (List Int)} {k n s : Nat} {t : Int} (h : k < n) (ht : teamAt rows k s = t) : hasG rows k s t < hasG rows n s t := by
  unfold hasG
  obtain ⟨m, rfl⟩ : ∃ m, n = k + 1 + m := ⟨n - (k + 1), by omega⟩
  induction m with
  | zero => rw [Nat.add_zero, List.range_succ, List.countP_append]; simp [ht]
  | succ m ih =>
    have := ih (by omega)
    rw [show k + 1 + (m + 1) = k + 1 + m + 1 from rfl, List.range_succ (n := k + 1 + m), List.countP_append]
    omega
theorem sched_ok {rows : List (List Int)} {b : Int} (hb : ∀ k, k < rows.length → ∀ s, s < 2 → (hasG rows rows.length s (teamAt rows k s) : Int) ≤ b) {k : Nat} (hk : k ≤ rows.length) : daysOk rows k b (sched rows k) := by
  induction k with
  | zero => exact ⟨rfl, fun i hi => absurd hi (Nat.not_lt_zero _), fun d hd => by simp [sched] at hd⟩
  | succ k ih =>
    have hg : rows[k]? = some (rows.getD k []) := by rw [List.getD, List.getElem?_eq_getElem (by omega)]; rfl
    refine oneMore_ok (ih (by omega)) hg fun s hs => ?_
    have h1 := hasG_lt (rows := rows) (k := k) (n := rows.length) (s := s) (by omega) rfl
    have h2 := hb k (by omega) s hs
    omega
theorem sched_ok18 {rows : List (List Int)} (h : rows.length ≤ 18) {k : Nat} (hk : k ≤ rows.length) : daysOk rows k 18 (sched rows k) :=
  sched_ok (fun k hk s hs => by have := hasG_le rows rows.length s (teamAt rows k s); omega) hk
def scheduled (rows : List (List Int)) : List Int := if gamesOk rows then sched rows rows.length else []
theorem scheduled_len (rows : List (List Int)) : (scheduled rows).length ≤ 18 := by
  unfold scheduled
  split
  · rename_i h; rw [(sched_ok18 h.1 (Nat.le_refl _)).len]; exact h.1
  · simp

/-! ### Teams that are idle on a day -/
def teamPlays (rows : List (List Int)) (s : Nat) (t : Int) : Bool := rows.any fun g => decide (g.getD s 0 = t)
def idleAt (rows : List (List Int)) (days : List Int) (s : Nat) (d : Int) (t : Nat) : Bool := teamPlays rows s (t : Int) && decide (fnd rows days s (t : Int) d < 0)
def idleTo (rows : List (List Int)) (days : List Int) (s : Nat) (d : Int) : Nat → List Int
  | 0 => []
  | k + 1 => idleTo rows days s d k ++ if idleAt rows days s d k = true then [(k : Int)] else []
theorem idleTo_len (rows : List (List Int)) (days : List Int) (s : Nat) (d : Int) (k : Nat) : (idleTo rows days s d k).length ≤ k := by
  induction k with
  | zero => simp [idleTo]
  | succ k ih => simp only [idleTo, List.length_append]; split <;> simp <;> omega
theorem idleTo_yes {rows : List (List Int)} {days : List Int} {s : Nat} {d : Int} {k : Nat} (h : idleAt rows days s d k = true) : idleTo rows days s d (k + 1) = idleTo rows days s d k ++ [(k : Int)] := by simp only [idleTo]; rw [if_pos h]
theorem idleTo_no {rows : List (List Int)} {days : List Int} {s : Nat} {d : Int} {k : Nat} (h : idleAt rows days s d k = false) : idleTo rows days s d (k + 1) = idleTo rows days s d k := by simp only [idleTo]; rw [h]; simp

/-! ### The chain, one game after the other -/
def flT (rows : List (List Int)) (ds : List Int) (x y g1 : Int) (q : Nat) : List Int := flips x y ((List.range q).map fun j => (gm rows ds x y g1 j).toNat) ds
theorem flT_len (rows : List (List Int)) (ds : List Int) (x y g1 : Int) (q : Nat) : (flT rows ds x y g1 q).length = ds.length := flips_len _ _ _ _
theorem flT_succ (rows : List (List Int)) (ds : List Int) (x y g1 : Int) (q : Nat) : flT rows ds x y g1 (q + 1) = (flT rows ds x y g1 q).set (gm rows ds x y g1 q).toNat (x + y - (flT rows ds x y g1 q).getD (gm rows ds x y g1 q).toNat 0) := by
  unfold flT
  rw [List.range_succ, List.map_append]
  exact flips_snoc _ _ _ _ _
theorem flT_get {rows : List (List Int)} {ds : List Int} {x y g1 : Int} (hp : proper rows ds) (hxy : x ≠ y) (hy : fnd rows ds 1 g1 y < 0) {L : Nat} (hall : ∀ j, j < L → 0 ≤ gm rows ds x y g1 j) {q : Nat} (hq : q < L) :
    (flT rows ds x y g1 q).getD (gm rows ds x y g1 q).toNat 0 = dy x y q := by
  have hn : ((List.range q).map fun j => (gm rows ds x y g1 j).toNat).Nodup :=
    nodup_map_range _ q fun i hi j hj => gm_inj hp hxy hy i (fun k hk => hall k (by omega)) j hj
  unfold flT
  rw [flips_get _ _ _ _ _ hn fun i hi => ?_]
  · rw [if_neg]
    · exact (gm_get (hall q hq)).1
    · intro hm
      simp at hm
      obtain ⟨j, hj, e⟩ := hm
      exact gm_inj hp hxy hy q (fun k hk => hall k (by omega)) j hj e.symm
  · simp at hi
    obtain ⟨j, hj, rfl⟩ := hi
    exact (gm_get (hall j (by omega))).2.2
theorem oneMore_same {rows : List (List Int)} {ds g : List Int} {x : Int} (hx : fre rows ds 0 (g.getD 0 0) = x) (hy : fre rows ds 1 (g.getD 1 0) = x) : oneMore rows ds g = ds ++ [x] := by
  unfold oneMore; simp only [hx, hy, if_true]
theorem oneMore_diff {rows : List (List Int)} {ds g : List Int} {x y : Int} {L : Nat} (hx : fre rows ds 0 (g.getD 0 0) = x) (hy : fre rows ds 1 (g.getD 1 0) = y) (hxy : x ≠ y) (hL : chLen rows ds x y (g.getD 1 0) = L) : oneMore rows ds g = flT rows ds x y (g.getD 1 0) L ++ [x] := by
  unfold oneMore; simp only [hx, hy, if_neg hxy]; unfold chain flT; rw [hL]; rfl
/-- The chain's games as numbers. -/
def chI (rows : List (List Int)) (ds : List Int) (x y g1 : Int) (j : Nat) : List Int := (List.range j).map fun i => gm rows ds x y g1 i
theorem chI_len (rows : List (List Int)) (ds : List Int) (x y g1 : Int) (j : Nat) : (chI rows ds x y g1 j).length = j := by simp [chI]
theorem chI_succ (rows : List (List Int)) (ds : List Int) (x y g1 : Int) (j : Nat) : chI rows ds x y g1 (j + 1) = chI rows ds x y g1 j ++ [gm rows ds x y g1 j] := by simp [chI, List.range_succ]
theorem chI_get (rows : List (List Int)) (ds : List Int) (x y g1 : Int) {j q : Nat} (h : q < j) : (chI rows ds x y g1 j)[q]? = some (gm rows ds x y g1 q) := by simp [chI, h]
theorem sched_succ {rows : List (List Int)} {k : Nat} {g : List Int} (h : rows[k]? = some g) : sched rows (k + 1) = oneMore rows (sched rows k) g := by
  simp only [sched]; rw [List.getD, h]; rfl
theorem plays_getD {rows : List (List Int)} {days r : List Int} {i s : Nat} {x t d : Int} (hx : days[i]? = some x) (hr : rows[i]? = some r) : plays rows days s t d i = decide (x = d ∧ r.getD s 0 = t) := by
  unfold plays teamAt
  rw [decide_eq_decide]
  simp [List.getD, hx, hr]
theorem teamAt_get {rows : List (List Int)} {r : List Int} {i s : Nat} (hr : rows[i]? = some r) : teamAt rows i s = r.getD s 0 := by unfold teamAt; simp [List.getD, hr]

end Go.Proofs.YtbaljgdepicigaaDoor
/-
  Plain lemmas on schedules of as many days as the busiest team has games: no program.
-/
namespace Go.Proofs.YtbaljgdepicigaaDoor
set_option linter.unusedVariables false

theorem hasG_cnt (rows : List (List Int)) (n s t : Nat) (hn : n ≤ rows.length) : (hasG rows n s (t : Int) : Int) = cntL (side s (rows.take n)) t := by
  induction n with
  | zero => simp [hasG, side, cntL]
  | succ n ih =>
    have ih := ih (by omega)
    have hr : rows[n]? = some rows[n] := List.getElem?_eq_getElem (by omega)
    rw [side_snoc s hr]
    have ht : teamAt rows n s = (rows[n]).getD s 0 := by unfold teamAt; simp [List.getD, hr]
    unfold hasG at ih ⊢
    rw [List.range_succ, List.countP_append]
    unfold cntL at ih ⊢
    rw [List.countP_append]
    simp only [List.countP_cons, List.countP_nil, ht]
    by_cases e : (rows[n]).getD s 0 = (t : Int)
    · simp at ih ⊢; omega
    · simp at ih ⊢; omega
theorem busy_ge {rows : List (List Int)} {s t : Nat} (hs : s < 2) (ht : t < 6) : cntL (side s rows) t ≤ busiest rows := by
  have h1 : cntL (side s rows) t ≤ maxL (counts 6 (side s rows)) := le_maxL (List.mem_of_getElem? (counts_get (side s rows) ht))
  unfold busiest
  rcases (show s = 0 ∨ s = 1 by omega) with rfl | rfl <;> omega
theorem team_nat {rows : List (List Int)} (hok : gamesOk rows) {k s : Nat} (hk : k < rows.length) (hs : s < 2) : ∃ t : Nat, teamAt rows k s = (t : Int) ∧ t < 6 := by
  have hr : rows[k]? = some rows[k] := List.getElem?_eq_getElem hk
  obtain ⟨a, b, e, ha, hb⟩ := gameOk_two (hok.2 rows[k] (List.getElem_mem hk))
  have ht : teamAt rows k s = (rows[k]).getD s 0 := by unfold teamAt; simp [List.getD, hr]
  rw [ht, e]
  rcases (show s = 0 ∨ s = 1 by omega) with rfl | rfl
  · exact ⟨a, rfl, by omega⟩
  · exact ⟨b, rfl, by omega⟩
theorem sched_busy {rows : List (List Int)} (hok : gamesOk rows) : daysOk rows rows.length (busiest rows) (sched rows rows.length) :=
  sched_ok (fun k hk s hs => by
    obtain ⟨t, ht, ht6⟩ := team_nat hok hk hs
    rw [ht, hasG_cnt rows rows.length s t (Nat.le_refl _), List.take_length]
    exact busy_ge hs ht6) (Nat.le_refl _)
theorem sched_is {rows : List (List Int)} (hok : gamesOk rows) : isSchedule rows (sched rows rows.length) := by
  have h := sched_ok18 hok.1 (Nat.le_refl rows.length)
  refine ⟨hok, h.len, fun d hd => by have := h.low d hd; omega, fun i hi k hk hc => ?_⟩
  have hik : i ≠ k := by omega
  obtain ⟨hd, ht⟩ := hc
  rcases ht with ht | ht
  · exact hik (h.prop i (by rw [h.len]; exact hi) k (by rw [h.len]; omega) hd 0 (by omega) ht)
  · exact hik (h.prop i (by rw [h.len]; exact hi) k (by rw [h.len]; omega) hd 1 (by omega) ht)
/-- Who plays on a day is not idle. -/
theorem onTo_at {rows : List (List Int)} {days : List Int} {day : Int} {k : Nat} : ∀ r ∈ onTo rows days day k, ∃ i, i < k ∧ days.getD i 0 = day ∧ r = rows.getD i [] := by
  induction k with
  | zero => intro r hr; simp [onTo] at hr
  | succ k ih =>
    intro r hr
    simp only [onTo] at hr
    rcases List.mem_append.1 hr with hr | hr
    · obtain ⟨i, hi, h1, h2⟩ := ih r hr; exact ⟨i, by omega, h1, h2⟩
    · split at hr
      · rename_i hd; simp at hr; exact ⟨k, by omega, hd, by simp [List.getD, hr]⟩
      · cases hr
theorem idleTo_not {rows : List (List Int)} {days : List Int} {day x : Int} {s k : Nat} (h : x ∈ idleTo rows days s day k) : fnd rows days s x day < 0 := by
  induction k with
  | zero => cases h
  | succ k ih =>
    simp only [idleTo] at h
    rcases List.mem_append.1 h with h | h
    · exact ih h
    · split at h
      · rename_i hi
        simp at h
        subst h
        unfold idleAt at hi
        simp at hi
        exact hi.2
      · cases h
theorem plays_not_idle {rows : List (List Int)} {days : List Int} {day : Int} {s : Nat} (hl : days.length = rows.length) : ∀ r ∈ onTo rows days day rows.length, ¬ r.getD s 0 ∈ idleTo rows days s day 6 := by
  intro r hr hm
  obtain ⟨i, hi, hd, e⟩ := onTo_at r hr
  have h1 := idleTo_not hm
  have h2 := fnd_ex (rows := rows) (days := days) (s := s) (t := r.getD s 0) (d := day) (i := i) (by omega) hd (by rw [e]; rfl)
  omega

/-! ### Sums and maxima over the days -/
def sumC (f : Nat → Int) : Nat → Int
  | 0 => 0
  | k + 1 => sumC f k + f k
def maxC (f : Nat → Int) : Nat → Int
  | 0 => 0
  | k + 1 => max (maxC f k) (f k)
theorem sumC_add (f g : Nat → Int) (b : Nat) : sumC (fun t => f t + g t) b = sumC f b + sumC g b := by
  induction b with
  | zero => rfl
  | succ b ih => simp only [sumC, ih]; omega
theorem sumC_congr {f g : Nat → Int} {b : Nat} (h : ∀ t, t < b → f t = g t) : sumC f b = sumC g b := by
  induction b with
  | zero => rfl
  | succ b ih => simp only [sumC]; rw [ih fun t ht => h t (by omega), h b (by omega)]
theorem sumC_one {x b : Nat} (h : x < b) : sumC (fun t => if x = t then 1 else 0) b = 1 := by
  have key : ∀ k : Nat, sumC (fun t => if x = t then 1 else 0) k = if x < k then 1 else 0 := by
    intro k
    induction k with
    | zero => simp [sumC]
    | succ k ih =>
      simp only [sumC, ih]
      by_cases e : x = k
      · rw [if_neg (by omega), if_pos e, if_pos (by omega)]; rfl
      · rw [if_neg e]
        by_cases e2 : x < k
        · rw [if_pos e2, if_pos (by omega)]; rfl
        · rw [if_neg e2, if_neg (by omega)]; rfl
  rw [key b, if_pos h]
theorem cntL_cons (x : Int) (l : List Int) (t : Nat) : cntL (x :: l) t = cntL l t + if x = (t : Int) then 1 else 0 := by
  unfold cntL
  rw [List.countP_cons]
  by_cases e : x = (t : Int)
  · simp [e]
  · simp [e]
theorem sumC_all {b : Nat} : ∀ (l : List Int), (∀ d ∈ l, 0 ≤ d ∧ d < (b : Int)) → sumC (cntL l) b = l.length := by
  intro l
  induction l with
  | nil =>
    intro _
    have : ∀ k, sumC (cntL []) k = 0 := by intro k; induction k with | zero => rfl | succ k ih => simp only [sumC, ih]; simp [cntL]
    rw [this]; rfl
  | cons x l ih =>
    intro h
    have hx := h x (by simp)
    have ih := ih fun d hd => h d (by simp [hd])
    have e : sumC (cntL (x :: l)) b = sumC (fun t => cntL l t + if x.toNat = t then 1 else 0) b := sumC_congr fun t ht => by
      rw [cntL_cons]
      by_cases e : x = (t : Int)
      · rw [if_pos e, if_pos (by omega)]
      · rw [if_neg e, if_neg (by omega)]
    rw [e, sumC_add, ih, sumC_one (by omega)]
    simp
theorem cntL_none {l : List Int} {b t : Nat} (h : ∀ d ∈ l, 0 ≤ d ∧ d < (b : Int)) (ht : b ≤ t) : cntL l t = 0 := by
  unfold cntL
  have : l.countP (fun x => x == (t : Int)) = 0 := by
    rw [List.countP_eq_zero]
    intro d hd
    have := h d hd
    simp
    omega
  rw [this]; rfl
theorem maxC_counts (l : List Int) : ∀ k : Nat, k ≤ 18 → maxC (cntL l) k = maxL ((counts 18 l).take k) := by
  intro k
  induction k with
  | zero => intro _; simp [maxC, maxL]
  | succ k ih => intro hk; simp only [maxC]; rw [ih (by omega), maxL_counts_take 18 l k (by omega)]
theorem maxC_all {l : List Int} {b : Nat} (h : ∀ d ∈ l, 0 ≤ d ∧ d < (b : Int)) (hb : b ≤ 18) : maxC (cntL l) b = maxL (counts 18 l) := by
  have key : ∀ j : Nat, b + j ≤ 18 → maxC (cntL l) (b + j) = maxC (cntL l) b := by
    intro j
    induction j with
    | zero => intro _; rfl
    | succ j ih =>
      intro hj
      rw [← Nat.add_assoc]
      simp only [maxC]
      rw [ih (by omega), cntL_none h (by omega)]
      have : 0 ≤ maxC (cntL l) b := by rw [maxC_counts l b hb]; exact maxL_ge _
      omega
  have h1 := key (18 - b) (by omega)
  rw [show b + (18 - b) = 18 by omega, maxC_counts l 18 (Nat.le_refl _), take_len (counts_len 18 l)] at h1
  exact h1.symm

/-! ### Moves -/
theorem set_self_getD {l : List Int} {i : Nat} {v : Int} (hv : l.getD i 0 = v) : l.set i v = l := by
  apply List.ext_getElem?
  intro j
  rw [List.getElem?_set]
  by_cases e : i = j
  · subst e
    rw [if_pos rfl]
    by_cases hl : i < l.length
    · rw [if_pos hl, List.getElem?_eq_getElem hl, ← hv]; simp [List.getD, hl]
    · rw [if_neg hl, List.getElem?_eq_none (by omega)]
  · rw [if_neg e]
theorem move_self {rows : List (List Int)} {ds : List Int} {i : Nat} {v : Int} (h : isSchedule rows ds) (hi : i < rows.length) (hv : ds.getD i 0 = v) : mayMove rows ds (i : Int) v ∧ moved rows ds (i : Int) v = ds := by
  have hs := set_self_getD hv
  have hm : mayMove rows ds (i : Int) v := ⟨h, by omega, by rw [Int.toNat_natCast, hs]; exact h⟩
  exact ⟨hm, by unfold moved; rw [if_pos hm, Int.toNat_natCast, hs]⟩
theorem move_past {rows : List (List Int)} {ds : List Int} {i : Nat} {b : Int} (h : isSchedule rows ds) (hi : i < rows.length) (hb : ∀ d ∈ ds, d < b) (h0 : 0 ≤ b) (h18 : b < 18) : mayMove rows ds (i : Int) b ∧ moved rows ds (i : Int) b = ds.set i b := by
  have hl := h.2.1
  have hne : ∀ j, j < rows.length → ds.getD j 0 < b := fun j hj => hb _ (getD_mem0 (by omega))
  have hi' : i < ds.length := by omega
  have hsch : isSchedule rows (ds.set i b) := by
    refine ⟨h.1, by simp [hl], fun d hd => ?_, fun j hj k hk hc => ?_⟩
    · rcases List.mem_or_eq_of_mem_set hd with hd | rfl
      · exact h.2.2.1 d hd
      · omega
    · obtain ⟨hd, ht⟩ := hc
      rw [getD_set hi', getD_set hi'] at hd
      by_cases e1 : i = j
      · have e2 : ¬ i = k := by omega
        rw [if_pos e1, if_neg e2] at hd
        have := hne k (by omega)
        omega
      · by_cases e2 : i = k
        · rw [if_neg e1, if_pos e2] at hd
          have := hne j hj
          omega
        · rw [if_neg e1, if_neg e2] at hd
          exact h.2.2.2 j hj k hk ⟨hd, ht⟩
  have hm : mayMove rows ds (i : Int) b := ⟨h, by omega, by rw [Int.toNat_natCast]; exact hsch⟩
  exact ⟨hm, by unfold moved; rw [if_pos hm, Int.toNat_natCast]⟩

end Go.Proofs.YtbaljgdepicigaaDoor
/-
  Plain lemmas on double elimination: no program.
-/
namespace Go.Proofs.YtbaljgdepicigaaDoor
set_option linter.unusedVariables false

/-! ### Games of one round after the other -/
def beatsI (xs : List Int) (a b : Int) : Prop := bts xs a.toNat b.toNat
instance (xs : List Int) (a b : Int) : Decidable (beatsI xs a b) := by unfold beatsI; infer_instance
/-- Who wins and who loses. -/
def won (xs : List Int) (a b : Int) : Int := if beatsI xs a b then a else b
def lostG (xs : List Int) (a b : Int) : Int := if beatsI xs a b then b else a
structure DS where
  f : List Int
  s : List Int
  p : List Int
  g : List (List Int)
def goOn (d : DS) : Prop := 1 < d.f.length + d.s.length
instance (d : DS) : Decidable (goOn d) := by unfold goOn; infer_instance
def meetG (xs : List Int) (a b : Int) : List Int := [won xs a b, lostG xs a b]
def stepD (xs : List Int) (d : DS) : DS :=
  if 2 ≤ d.f.length then
    { f := d.f.drop 2 ++ [won xs (d.f.getD 0 0) (d.f.getD 1 0)], s := d.s ++ [lostG xs (d.f.getD 0 0) (d.f.getD 1 0)], p := d.p, g := d.g ++ [meetG xs (d.f.getD 0 0) (d.f.getD 1 0)] }
  else if 2 ≤ d.s.length then
    { f := d.f, s := d.s.drop 2 ++ [won xs (d.s.getD 0 0) (d.s.getD 1 0)], p := d.p ++ [lostG xs (d.s.getD 0 0) (d.s.getD 1 0)], g := d.g ++ [meetG xs (d.s.getD 0 0) (d.s.getD 1 0)] }
  else if beatsI xs (d.f.getD 0 0) (d.s.getD 0 0) then
    { f := d.f, s := [], p := d.p ++ [d.s.getD 0 0], g := d.g ++ [[d.f.getD 0 0, d.s.getD 0 0]] }
  else
    { f := [], s := [d.f.getD 0 0, d.s.getD 0 0], p := d.p, g := d.g ++ [[d.s.getD 0 0, d.f.getD 0 0]] }
def stD (xs o : List Int) : Nat → DS
  | 0 => { f := o, s := [], p := [], g := [] }
  | j + 1 => stepD xs (stD xs o j)
def weight (d : DS) : Nat := 2 * d.f.length + d.s.length
theorem step_weight (xs : List Int) (d : DS) (h : goOn d) : weight (stepD xs d) + 1 = weight d := by
  unfold goOn at h
  unfold stepD weight
  by_cases h1 : 2 ≤ d.f.length
  · simp [h1]; omega
  · by_cases h2 : 2 ≤ d.s.length
    · simp [h1, h2]; omega
    · simp only [h1, h2, if_false]
      split
      · simp; omega
      · simp; omega
theorem st_weight (xs o : List Int) {j : Nat} (h : ∀ i, i < j → goOn (stD xs o i)) : weight (stD xs o j) + j = 2 * o.length := by
  induction j with
  | zero => simp [stD, weight]
  | succ j ih =>
    have h1 := step_weight xs (stD xs o j) (h j (by omega))
    have h2 := ih fun i hi => h i (by omega)
    simp only [stD]
    omega
theorem step_games (xs : List Int) (d : DS) : (stepD xs d).g.length = d.g.length + 1 := by
  unfold stepD
  split
  · simp
  · split
    · simp
    · split <;> simp
theorem st_games (xs o : List Int) (j : Nat) : (stD xs o j).g.length = j := by
  induction j with
  | zero => rfl
  | succ j ih => simp only [stD, step_games, ih]
/-- How many games are played. -/
def lenD (xs o : List Int) : Nat := (firstN (fun j => decide (¬ goOn (stD xs o j))) (2 * o.length + 1)).toNat
theorem lenD_ok (xs o : List Int) : ¬ goOn (stD xs o (lenD xs o)) ∧ ∀ i, i < lenD xs o → goOn (stD xs o i) := by
  have h0 : 0 ≤ firstN (fun j => decide (¬ goOn (stD xs o j))) (2 * o.length + 1) := by
    by_cases hh : ∃ d, d < 2 * o.length + 1 ∧ ¬ goOn (stD xs o d)
    · obtain ⟨d, hd, hf⟩ := hh
      exact firstN_ex (k := d) hd (decide_eq_true hf)
    · exfalso
      have h1 : ∀ i, i < 2 * o.length + 1 → goOn (stD xs o i) := fun i hi => Decidable.byContradiction fun h => hh ⟨i, hi, h⟩
      have := st_weight xs o h1
      omega
  obtain ⟨h1, h2, h3⟩ := firstN_get h0
  exact ⟨of_decide_eq_true h1, fun i hi => Decidable.byContradiction fun h => by have := of_decide_eq_false (h3 i hi); exact this h⟩
theorem lenD_eq {xs o : List Int} {j : Nat} (h : ∀ i, i < j → goOn (stD xs o i)) (h0 : ¬ goOn (stD xs o j)) : lenD xs o = j := by
  obtain ⟨h1, h2⟩ := lenD_ok xs o
  rcases Nat.lt_trichotomy (lenD xs o) j with e | e | e
  · exact absurd (h _ e) h1
  · exact e
  · exact absurd (h2 _ e) h0
def endD (xs o : List Int) : DS := stD xs o (lenD xs o)
def doubleG (xs o : List Int) : List (List Int) := (endD xs o).g
def placesD (xs o : List Int) : List Int := ((endD xs o).p ++ (endD xs o).f ++ (endD xs o).s).reverse
theorem lenD_le (xs o : List Int) : lenD xs o ≤ 2 * o.length := by
  have := st_weight xs o (j := lenD xs o) (lenD_ok xs o).2; omega
theorem doubleG_len (xs o : List Int) : (doubleG xs o).length = lenD xs o := st_games _ _ _
/-- All players, each in one place. -/
def allD (d : DS) : List Int := d.f ++ d.s ++ d.p
theorem won_lost (xs : List Int) (a b : Int) : (won xs a b = a ∧ lostG xs a b = b) ∨ (won xs a b = b ∧ lostG xs a b = a) := by unfold won lostG; split <;> simp
theorem two_of {l : List Int} (h : 2 ≤ l.length) : l = l.getD 0 0 :: l.getD 1 0 :: l.drop 2 := by
  match l, h with
  | a :: b :: r, _ => rfl
theorem one_of {l : List Int} (h : l.length = 1) : l = [l.getD 0 0] := by
  match l, h with
  | [a], _ => rfl
theorem perm_step (xs : List Int) (d : DS) (h : goOn d) : (allD (stepD xs d)).Perm (allD d) := by
  unfold goOn at h
  rw [List.perm_iff_count]
  intro z
  unfold stepD allD
  by_cases h1 : 2 ≤ d.f.length
  · have e := two_of h1
    generalize d.f.getD 0 0 = a at *
    generalize d.f.getD 1 0 = b at *
    generalize d.f.drop 2 = r at *
    simp only [h1, if_true]
    rw [e]
    rcases won_lost xs a b with ⟨w1, w2⟩ | ⟨w1, w2⟩ <;> rw [w1, w2] <;> simp only [List.count_append, List.count_cons, List.count_nil] <;> omega
  · by_cases h2 : 2 ≤ d.s.length
    · have e := two_of h2
      simp only [h1, h2, if_true, if_false]
      generalize d.s.getD 0 0 = a at *
      generalize d.s.getD 1 0 = b at *
      generalize d.s.drop 2 = r at *
      rw [e]
      rcases won_lost xs a b with ⟨w1, w2⟩ | ⟨w1, w2⟩ <;> rw [w1, w2] <;> simp only [List.count_append, List.count_cons, List.count_nil] <;> omega
    · have e1 := one_of (l := d.f) (by omega)
      have e2 := one_of (l := d.s) (by omega)
      simp only [h1, h2, if_false]
      generalize d.f.getD 0 0 = a at *
      generalize d.s.getD 0 0 = b at *
      rw [e1, e2]
      split <;> simp only [List.count_append, List.count_cons, List.count_nil] <;> omega
theorem perm_st (xs o : List Int) {j : Nat} (h : ∀ i, i < j → goOn (stD xs o i)) : (allD (stD xs o j)).Perm o := by
  induction j with
  | zero => simp [stD, allD]
  | succ j ih => exact (perm_step xs _ (h j (by omega))).trans (ih fun i hi => h i (by omega))
theorem allD_bound {xs o : List Int} {j : Nat} (h : ∀ i, i < j → goOn (stD xs o i)) {P : Int → Prop} (ho : ∀ x ∈ o, P x) : ∀ x ∈ allD (stD xs o j), P x := fun x hx => ho x ((perm_st xs o h).mem_iff.1 hx)

/-! ### Defeats -/
def lossOf (g : List (List Int)) (a : Int) : Nat := g.countP fun x => x.getD 1 0 == a
theorem lossOf_snoc (g : List (List Int)) (x : List Int) (a : Int) : lossOf (g ++ [x]) a = lossOf g a + if x.getD 1 0 = a then 1 else 0 := by
  unfold lossOf; rw [List.countP_append]; by_cases e : x.getD 1 0 = a <;> simp [List.countP_cons, List.getD] at e ⊢ <;> simp [e]
/-- Those in the first part have not lost, those in the second once, those who are out twice. -/
structure lossOk (d : DS) : Prop where
  f : ∀ x ∈ d.f, lossOf d.g x = 0
  s : ∀ x ∈ d.s, lossOf d.g x = 1
  p : ∀ x ∈ d.p, lossOf d.g x = 2
theorem loss_step (xs : List Int) (d : DS) (h : goOn d) (hn : (allD d).Nodup) (hl : lossOk d) : lossOk (stepD xs d) := by
  unfold goOn at h
  unfold allD at hn
  rw [List.nodup_append, List.nodup_append] at hn
  obtain ⟨⟨hf, hs, hfs⟩, hp, hq⟩ := hn
  have hfp : ∀ a ∈ d.f, ∀ b ∈ d.p, a ≠ b := fun a ha => hq a (by simp [ha])
  have hsp : ∀ a ∈ d.s, ∀ b ∈ d.p, a ≠ b := fun a ha => hq a (by simp [ha])
  clear hq
  obtain ⟨l1, l2, l3⟩ := hl
  unfold stepD
  by_cases h1 : 2 ≤ d.f.length
  · have e := two_of h1
    simp only [h1, if_true]
    generalize d.f.getD 0 0 = a at *
    generalize d.f.getD 1 0 = b at *
    generalize d.f.drop 2 = r at *
    rw [e] at hf hfs hfp l1
    simp only [List.nodup_cons, List.mem_cons] at hf
    have key : ∀ u v : Int, (u = a ∧ v = b) ∨ (u = b ∧ v = a) → lossOk { f := r ++ [u], s := d.s ++ [v], p := d.p, g := d.g ++ [[u, v]] } := by
      intro u v huv
      have hu : u ∈ a :: b :: r ∧ v ∈ a :: b :: r ∧ u ≠ v ∧ ¬ v ∈ r := by
        rcases huv with ⟨rfl, rfl⟩ | ⟨rfl, rfl⟩
        · exact ⟨by simp, by simp, fun e => hf.1 (.inl e), hf.2.1⟩
        · exact ⟨by simp, by simp, fun e => hf.1 (.inl e.symm), fun h => hf.1 (.inr h)⟩
      refine ⟨fun x hx => ?_, fun x hx => ?_, fun x hx => ?_⟩
      · rw [lossOf_snoc]
        rcases List.mem_append.1 hx with hx | hx
        · rw [l1 x (by simp [hx])]; simp; exact fun e => hu.2.2.2 (e ▸ hx)
        · simp at hx; subst hx; rw [l1 x hu.1]; simp; exact fun e => hu.2.2.1 e.symm
      · rw [lossOf_snoc]
        rcases List.mem_append.1 hx with hx | hx
        · rw [l2 x hx]; simp; exact fun e => hfs v hu.2.1 x hx e
        · simp at hx; subst hx; rw [l1 x hu.2.1]; simp
      · rw [lossOf_snoc, l3 x hx]; simp; exact fun e => hfp v hu.2.1 x hx e
    exact key _ _ (won_lost xs a b)
  · by_cases h2 : 2 ≤ d.s.length
    · have e := two_of h2
      simp only [h1, h2, if_true, if_false]
      generalize d.s.getD 0 0 = a at *
      generalize d.s.getD 1 0 = b at *
      generalize d.s.drop 2 = r at *
      rw [e] at hs hfs hsp l2
      simp only [List.nodup_cons, List.mem_cons] at hs
      have key : ∀ u v : Int, (u = a ∧ v = b) ∨ (u = b ∧ v = a) → lossOk { f := d.f, s := r ++ [u], p := d.p ++ [v], g := d.g ++ [[u, v]] } := by
        intro u v huv
        have hu : u ∈ a :: b :: r ∧ v ∈ a :: b :: r ∧ u ≠ v ∧ ¬ v ∈ r := by
          rcases huv with ⟨rfl, rfl⟩ | ⟨rfl, rfl⟩
          · exact ⟨by simp, by simp, fun e => hs.1 (.inl e), hs.2.1⟩
          · exact ⟨by simp, by simp, fun e => hs.1 (.inl e.symm), fun h => hs.1 (.inr h)⟩
        refine ⟨fun x hx => ?_, fun x hx => ?_, fun x hx => ?_⟩
        · rw [lossOf_snoc, l1 x hx]; simp; exact fun e => hfs x hx v hu.2.1 e.symm
        · rw [lossOf_snoc]
          rcases List.mem_append.1 hx with hx | hx
          · rw [l2 x (by simp [hx])]; simp; exact fun e => hu.2.2.2 (e ▸ hx)
          · simp at hx; subst hx; rw [l2 x hu.1]; simp; exact fun e => hu.2.2.1 e.symm
        · rw [lossOf_snoc]
          rcases List.mem_append.1 hx with hx | hx
          · rw [l3 x hx]; simp; exact fun e => hsp v hu.2.1 x hx e
          · simp at hx; subst hx; rw [l2 x hu.2.1]; simp
      exact key _ _ (won_lost xs a b)
    · have e1 := one_of (l := d.f) (by omega)
      have e2 := one_of (l := d.s) (by omega)
      simp only [h1, h2, if_false]
      generalize d.f.getD 0 0 = a at *
      generalize d.s.getD 0 0 = b at *
      rw [e1] at hfs hfp l1
      rw [e2] at hfs hsp l2
      have hab : a ≠ b := hfs a (by simp) b (by simp)
      split
      · refine ⟨fun x hx => ?_, (fun x hx => by cases hx), fun x hx => ?_⟩
        · rw [e1] at hx; simp at hx; subst hx; rw [lossOf_snoc, l1 x (by simp)]; simp; exact fun e => hab e.symm
        · rw [lossOf_snoc]
          rcases List.mem_append.1 hx with hx | hx
          · rw [l3 x hx]; simp; exact fun e => hsp b (by simp) x hx e
          · simp at hx; subst hx; rw [l2 x (by simp)]; simp
      · refine ⟨(fun x hx => by cases hx), fun x hx => ?_, fun x hx => ?_⟩
        · simp at hx
          rcases hx with rfl | rfl
          · rw [lossOf_snoc, l1 x (by simp)]; simp
          · rw [lossOf_snoc, l2 x (by simp)]; simp; exact hab
        · rw [lossOf_snoc, l3 x hx]; simp; exact fun e => hfp a (by simp) x hx e
theorem loss_st {xs o : List Int} (ho : o.Nodup) {j : Nat} (h : ∀ i, i < j → goOn (stD xs o i)) : lossOk (stD xs o j) := by
  induction j with
  | zero => exact ⟨fun x _ => rfl, (fun x hx => by cases hx), (fun x hx => by cases hx)⟩
  | succ j ih =>
    have hh : ∀ i, i < j → goOn (stD xs o i) := fun i hi => h i (by omega)
    exact loss_step xs _ (h j (by omega)) ((perm_st xs o hh).nodup_iff.2 ho) (ih hh)

/-! ### The reference's way to the places -/
theorem g_prefix (xs o : List Int) (j m : Nat) : (stD xs o (j + m)).g.take j = (stD xs o j).g := by
  induction m with
  | zero => rw [Nat.add_zero]; exact take_len (st_games xs o j)
  | succ m ih =>
    have e : ∃ x, (stD xs o (j + (m + 1))).g = (stD xs o (j + m)).g ++ [x] := by
      rw [← Nat.add_assoc]
      show ∃ x, (stepD xs (stD xs o (j + m))).g = _
      unfold stepD
      split
      · exact ⟨_, rfl⟩
      · split
        · exact ⟨_, rfl⟩
        · split <;> exact ⟨_, rfl⟩
    obtain ⟨x, e⟩ := e
    rw [e, List.take_append_of_le_length (by rw [st_games]; omega), ih]
def outTo (g : List (List Int)) : Nat → List Int
  | 0 => []
  | k + 1 => if lossOf (g.take (k + 1)) ((g.getD k []).getD 1 0) = 2 then (g.getD k []).getD 1 0 :: outTo g k else outTo g k
def finTo (g : List (List Int)) (out : List Int) : Nat → List Int
  | 0 => out
  | k + 1 => if lossOf g k < 2 then (k : Int) :: finTo g out k else finTo g out k
theorem step_game (xs : List Int) (d : DS) : ∃ u v : Int, (stepD xs d).g = d.g ++ [[u, v]] ∧ (((stepD xs d).p = d.p ∧ v ∈ (stepD xs d).s) ∨ ((stepD xs d).p = d.p ++ [v])) := by
  unfold stepD
  split
  · exact ⟨_, _, rfl, .inl ⟨rfl, by simp⟩⟩
  · split
    · exact ⟨_, _, rfl, .inr rfl⟩
    · split
      · exact ⟨_, _, rfl, .inr rfl⟩
      · exact ⟨_, _, rfl, .inl ⟨rfl, by simp⟩⟩
theorem outTo_st {xs o : List Int} (ho : o.Nodup) {j : Nat} (hj : j ≤ lenD xs o) : outTo (doubleG xs o) j = (stD xs o j).p.reverse := by
  induction j with
  | zero => rfl
  | succ j ih =>
    have ih := ih (by omega)
    obtain ⟨m, hm⟩ : ∃ m, lenD xs o = j + 1 + m := ⟨lenD xs o - (j + 1), by omega⟩
    have hp : (doubleG xs o).take (j + 1) = (stD xs o (j + 1)).g := by unfold doubleG endD; rw [hm]; exact g_prefix xs o (j + 1) m
    obtain ⟨u, v, hg, hv⟩ := step_game xs (stD xs o j)
    have hg' : (stD xs o (j + 1)).g = (stD xs o j).g ++ [[u, v]] := hg
    have hat : (doubleG xs o).getD j [] = [u, v] := by
      have h1 : ((doubleG xs o).take (j + 1))[j]? = some [u, v] := by
        rw [hp, hg', List.getElem?_append_right (by rw [st_games]; omega), st_games]; simp
      rw [List.getElem?_take, if_pos (by omega)] at h1
      rw [List.getD, h1]; rfl
    have hl := loss_st (xs := xs) ho (j := j + 1) fun i hi => (lenD_ok xs o).2 i (by omega)
    simp only [outTo, hat, hp]
    have e1 : [u, v].getD 1 0 = v := rfl
    rw [e1]
    rcases hv with ⟨h1, h2⟩ | h1
    · rw [if_neg (by rw [hl.s v h2]; omega), ih]
      exact congrArg _ h1.symm
    · have h2 : v ∈ (stD xs o (j + 1)).p := by show v ∈ (stepD xs (stD xs o j)).p; rw [h1]; simp
      rw [if_pos (hl.p v h2), ih]
      show _ = (stepD xs (stD xs o j)).p.reverse
      rw [h1, List.reverse_append]; rfl
/-- The numbers from 0 on. -/
def upto (n : Nat) : List Int := (List.range n).map fun (j : Nat) => (j : Int)
theorem upto_len (n : Nat) : (upto n).length = n := by simp [upto]
theorem upto_nodup (n : Nat) : (upto n).Nodup := by
  unfold upto
  rw [List.nodup_iff_pairwise_ne, List.pairwise_map]
  exact (List.nodup_range (n := n)).imp fun h e => h (by omega)
theorem upto_mem {n : Nat} {x : Int} : x ∈ upto n ↔ 0 ≤ x ∧ x < n := by
  simp [upto]
  constructor
  · rintro ⟨a, h, rfl⟩; omega
  · intro h; exact ⟨x.toNat, by omega, by omega⟩
theorem upto_get {n k : Nat} (h : k < n) : (upto n)[k]? = some (k : Int) := by simp [upto, h]
theorem upto_snoc (n : Nat) : upto (n + 1) = upto n ++ [(n : Int)] := by simp [upto, List.range_succ]
/-- At the end there is one left. -/
theorem end_one (xs : List Int) {o : List Int} (h0 : o ≠ []) : ∃ w, (endD xs o).f ++ (endD xs o).s = [w] := by
  have hw := st_weight xs o (j := lenD xs o) (lenD_ok xs o).2
  have hp := (perm_st xs o (j := lenD xs o) (lenD_ok xs o).2).length_eq
  have hg := (lenD_ok xs o).1
  unfold goOn at hg
  -- some are left: a step leaves one at least
  have h1 : 1 ≤ (endD xs o).f.length + (endD xs o).s.length := by
    unfold endD
    rcases Nat.eq_zero_or_pos (lenD xs o) with e | e
    · rw [e]; simp [stD]; have := List.length_pos_iff.2 h0; omega
    · obtain ⟨j, hj⟩ : ∃ j, lenD xs o = j + 1 := ⟨lenD xs o - 1, by omega⟩
      rw [hj]
      simp only [stD, stepD]
      split
      · simp; omega
      · split
        · simp; omega
        · have := (lenD_ok xs o).2 j (by omega)
          unfold goOn at this
          split
          · simp; omega
          · simp
  have h2 : ((endD xs o).f ++ (endD xs o).s).length = 1 := by rw [List.length_append]; unfold endD at h1 ⊢; omega
  match h : (endD xs o).f ++ (endD xs o).s, h2 with
  | [w], _ => exact ⟨w, rfl⟩
theorem finTo_end {g : List (List Int)} {out : List Int} {n : Nat} {w : Int} (hw : 0 ≤ w ∧ w < n) (h : ∀ k : Nat, k < n → (lossOf g k < 2 ↔ (k : Int) = w)) : finTo g out n = w :: out := by
  have key : ∀ k, k ≤ n → finTo g out k = if w < k then w :: out else out := by
    intro k
    induction k with
    | zero => intro _; simp [finTo]; omega
    | succ k ih =>
      intro hk
      simp only [finTo, ih (by omega)]
      by_cases e : (k : Int) = w
      · rw [if_pos ((h k (by omega)).2 e), if_neg (by omega), if_pos (by omega), e]
      · rw [if_neg (fun hh => e ((h k (by omega)).1 hh))]
        by_cases e2 : w < k
        · rw [if_pos e2, if_pos (by omega)]
        · rw [if_neg e2, if_neg (by omega)]
  rw [key n (Nat.le_refl _), if_pos hw.2]
theorem places_same (xs : List Int) {n : Nat} (hn : 0 < n) : finTo (doubleG xs (upto n)) (outTo (doubleG xs (upto n)) (doubleG xs (upto n)).length) n = placesD xs (upto n) := by
  have h0 : upto n ≠ [] := by intro e; have := upto_len n; rw [e] at this; simp at this; omega
  obtain ⟨w, hw⟩ := end_one xs h0
  rw [doubleG_len, outTo_st (upto_nodup n) (Nat.le_refl _)]
  have hl := loss_st (xs := xs) (upto_nodup n) (j := lenD xs (upto n)) (lenD_ok xs (upto n)).2
  have hp := perm_st xs (upto n) (j := lenD xs (upto n)) (lenD_ok xs (upto n)).2
  change lossOk (endD xs (upto n)) at hl
  change (allD (endD xs (upto n))).Perm _ at hp
  unfold allD at hp
  rw [hw] at hp
  have hnd := hp.nodup_iff.2 (upto_nodup n)
  have hwl : lossOf (doubleG xs (upto n)) w < 2 := by
    have hm : w ∈ (endD xs (upto n)).f ++ (endD xs (upto n)).s := by rw [hw]; simp
    rcases List.mem_append.1 hm with hm | hm
    · have := hl.f w hm; unfold doubleG; omega
    · have := hl.s w hm; unfold doubleG; omega
  have hwb := upto_mem.1 (hp.mem_iff.1 (show w ∈ [w] ++ _ by simp))
  rw [finTo_end (w := w) hwb]
  · show w :: (endD xs (upto n)).p.reverse = _
    unfold placesD
    rw [List.append_assoc, hw, List.reverse_append]; rfl
  · intro k hk
    constructor
    · intro hlt
      have hm := hp.mem_iff.2 (upto_mem.2 (show 0 ≤ (k : Int) ∧ (k : Int) < n by omega))
      rcases List.mem_append.1 hm with hm | hm
      · simpa using hm
      · have := hl.p _ hm; unfold doubleG at hlt; omega
    · rintro e; rw [e]; exact hwl
theorem placesD_perm (xs : List Int) (o : List Int) : (placesD xs o).Perm o := by
  have hp := perm_st xs o (j := lenD xs o) (lenD_ok xs o).2
  refine List.Perm.trans ?_ hp
  rw [List.perm_iff_count]
  intro z
  unfold placesD allD endD
  simp only [List.count_reverse, List.count_append]
  omega
/-- The two of a game differ, and are players. -/
theorem game_two {xs o : List Int} (ho : o.Nodup) {j : Nat} (h : ∀ i, i < j → goOn (stD xs o i)) : ∀ x ∈ (stD xs o j).g, ∃ u v, x = [u, v] ∧ u ≠ v ∧ u ∈ o ∧ v ∈ o := by
  induction j with
  | zero => intro x hx; cases hx
  | succ j ih =>
    have hh : ∀ i, i < j → goOn (stD xs o i) := fun i hi => h i (by omega)
    have hp := perm_st xs o hh
    have hn := hp.nodup_iff.2 ho
    have hg := h j (by omega)
    unfold goOn at hg
    have hstep : ∃ u v, (stepD xs (stD xs o j)).g = (stD xs o j).g ++ [[u, v]] ∧ u ≠ v ∧ u ∈ allD (stD xs o j) ∧ v ∈ allD (stD xs o j) := by
      generalize stD xs o j = d at *
      unfold allD at hn hp ⊢
      rw [List.nodup_append, List.nodup_append] at hn
      obtain ⟨⟨hf, hs, hfs⟩, _, _⟩ := hn
      unfold stepD
      split
      · rename_i h1
        have e := two_of h1
        generalize d.f.getD 0 0 = a at *
        generalize d.f.getD 1 0 = b at *
        have hab : a ≠ b := by rw [e] at hf; simp at hf; exact fun e => hf.1.1 e
        refine ⟨won xs a b, lostG xs a b, rfl, ?_⟩
        rw [e]
        rcases won_lost xs a b with ⟨w1, w2⟩ | ⟨w1, w2⟩ <;> rw [w1, w2]
        · exact ⟨hab, by simp, by simp⟩
        · exact ⟨fun e => hab e.symm, by simp, by simp⟩
      · split
        · rename_i h1
          have e := two_of h1
          generalize d.s.getD 0 0 = a at *
          generalize d.s.getD 1 0 = b at *
          have hab : a ≠ b := by rw [e] at hs; simp at hs; exact fun e => hs.1.1 e
          refine ⟨won xs a b, lostG xs a b, rfl, ?_⟩
          rw [e]
          rcases won_lost xs a b with ⟨w1, w2⟩ | ⟨w1, w2⟩ <;> rw [w1, w2]
          · exact ⟨hab, by simp, by simp⟩
          · exact ⟨fun e => hab e.symm, by simp, by simp⟩
        · have e1 := one_of (l := d.f) (by omega)
          have e2 := one_of (l := d.s) (by omega)
          generalize d.f.getD 0 0 = a at *
          generalize d.s.getD 0 0 = b at *
          rw [e1, e2]
          rw [e1] at hfs
          rw [e2] at hfs
          have hab : a ≠ b := hfs a (by simp) b (by simp)
          split
          · exact ⟨a, b, rfl, hab, by simp, by simp⟩
          · exact ⟨b, a, rfl, fun e => hab e.symm, by simp, by simp⟩
    obtain ⟨u, v, e, huv, hu, hv⟩ := hstep
    intro x hx
    change x ∈ (stepD xs (stD xs o j)).g at hx
    rw [e] at hx
    rcases List.mem_append.1 hx with hx | hx
    · exact ih hh x hx
    · simp at hx; exact ⟨u, v, hx, huv, hp.mem_iff.1 hu, hp.mem_iff.1 hv⟩
/-! ### Single elimination -/
structure SS where
  r : List Int
  g : List (List Int)
def stS (xs o : List Int) : Nat → SS
  | 0 => { r := o, g := [] }
  | j + 1 => { r := (stS xs o j).r.drop 2 ++ [won xs ((stS xs o j).r.getD 0 0) ((stS xs o j).r.getD 1 0)], g := (stS xs o j).g ++ [meetG xs ((stS xs o j).r.getD 0 0) ((stS xs o j).r.getD 1 0)] }
theorem stS_len (xs o : List Int) {j : Nat} (hj : j + 1 ≤ o.length) : (stS xs o j).r.length + j = o.length ∧ (stS xs o j).g.length = j := by
  induction j with
  | zero => simp [stS]
  | succ j ih =>
    have := ih (by omega)
    simp only [stS, List.length_append, List.length_drop, List.length_singleton]
    omega
theorem stS_mem (xs o : List Int) {j : Nat} (hj : j + 1 ≤ o.length) : ∀ x ∈ (stS xs o j).r, x ∈ o := by
  induction j with
  | zero => intro x hx; exact hx
  | succ j ih =>
    intro x hx
    have hl := (stS_len xs o (j := j) (by omega)).1
    have ih := ih (by omega)
    simp only [stS] at hx
    have e := two_of (l := (stS xs o j).r) (by omega)
    rcases List.mem_append.1 hx with hx | hx
    · exact ih x (List.mem_of_mem_drop hx)
    · simp at hx
      rcases won_lost xs ((stS xs o j).r.getD 0 0) ((stS xs o j).r.getD 1 0) with ⟨w1, _⟩ | ⟨w1, _⟩
      · simp only [List.getD] at w1; rw [hx, w1]; apply ih; rw [e]; simp
      · simp only [List.getD] at w1; rw [hx, w1]; apply ih; rw [e]; simp
def singleG (xs o : List Int) : List (List Int) := (stS xs o (o.length - 1)).g

end Go.Proofs.YtbaljgdepicigaaDoor
/-
  Plain lemmas on tours that are drawn: no program.
-/
namespace Go.Proofs.YtbaljgdepicigaaDoor
set_option linter.unusedVariables false

/-! ### Rows of bits -/
def rowsOk (n : Nat) (xs : List Int) : Prop := xs.length = n ∧ ∀ x ∈ xs, 0 ≤ x ∧ x < 256
theorem rowsOk_get {n : Nat} {xs : List Int} (h : rowsOk n xs) {a : Nat} (ha : a < n) : ∃ m : Nat, xs[a]? = some (m : Int) ∧ m < 256 := by
  have hl : a < xs.length := by rw [h.1]; exact ha
  have hm := h.2 _ (List.getElem_mem hl)
  exact ⟨xs[a].toNat, by rw [List.getElem?_eq_getElem hl]; congr 1; omega, by omega⟩
theorem rowsOk_set {n : Nat} {xs : List Int} (h : rowsOk n xs) (a : Nat) {m : Nat} (hm : m < 256) : rowsOk n (xs.set a (m : Int)) :=
  ⟨by rw [List.length_set]; exact h.1, fun x hx => by
    rcases List.mem_or_eq_of_mem_set hx with hx | rfl
    · exact h.2 x hx
    · omega⟩
theorem bts_get {xs : List Int} {a m : Nat} (h : xs[a]? = some (m : Int)) (j : Nat) : bts xs a j ↔ m.testBit j = true := bts_nat h
theorem bts_set_same {xs : List Int} {a : Nat} (ha : a < xs.length) (m j : Nat) : bts (xs.set a (m : Int)) a j ↔ m.testBit j = true := bts_nat (by rw [List.getElem?_set_self ha])
theorem bts_set_other {xs : List Int} {a i : Nat} (h : i ≠ a) (m : Int) (j : Nat) : bts (xs.set a m) i j ↔ bts xs i j := by
  unfold bts
  rw [List.getD_eq_getElem?_getD, List.getD_eq_getElem?_getD, List.getElem?_set_ne (by omega)]
theorem bts_out {xs : List Int} {i : Nat} (h : xs.length ≤ i) (j : Nat) : ¬ bts xs i j := by
  have e : xs.getD i 0 = ((0 : Nat) : Int) := by rw [List.getD_eq_getElem?_getD, List.getElem?_eq_none h]; rfl
  have h2 : bts [((0 : Nat) : Int)] 0 j ↔ (0 : Nat).testBit j = true := bts_nat rfl
  unfold bts at *
  rw [e]
  intro hb
  have := h2.1 hb
  simp at this
theorem xor_lt8 {m a : Nat} (hm : m < 256) (ha : a < 8) : m ^^^ 2 ^ a < 256 := Nat.xor_lt_two_pow (n := 8) hm (Nat.pow_lt_pow_right (by omega) ha)
theorem xor_bit (m a j : Nat) : (m ^^^ 2 ^ a).testBit j = (m.testBit j ^^ decide (a = j)) := by rw [Nat.testBit_xor, Nat.testBit_two_pow]
theorem bts_add {n : Nat} {xs : List Int} (h : rowsOk n xs) {a b m : Nat} (hx : xs[a]? = some (m : Int)) (hm : m < 256) (hb : b < 8) (hn : ¬ bts xs a b) :
    m + 2 ^ b < 256 ∧ rowsOk n (xs.set a ((m + 2 ^ b : Nat) : Int)) ∧ ∀ i j, j < 8 → (bts (xs.set a ((m + 2 ^ b : Nat) : Int)) i j ↔ bts xs i j ∨ (i = a ∧ j = b)) := by
  have ha : a < xs.length := (List.getElem?_eq_some_iff.1 hx).1
  have hf : m.testBit b = false := by
    cases e : m.testBit b with
    | false => rfl
    | true => exact absurd ((bts_get hx b).2 e) hn
  have hlt := bit_add_lt m hm b hb hf
  refine ⟨hlt, rowsOk_set h a hlt, fun i j hj => ?_⟩
  by_cases e : i = a
  · subst e
    rw [bts_set_same ha, bit_add m hm b hb hf j hj, bts_get hx, Bool.or_eq_true, beq_iff_eq]
    constructor
    · rintro (h | h)
      · exact .inl h
      · exact .inr ⟨rfl, h.symm⟩
    · rintro (h | ⟨_, h⟩)
      · exact .inl h
      · exact .inr h.symm
  · rw [bts_set_other e]
    exact ⟨.inl, fun hh => hh.elim id fun hh => absurd hh.1 e⟩
theorem bts_xor {n : Nat} {xs : List Int} (h : rowsOk n xs) {a b m : Nat} (hx : xs[a]? = some (m : Int)) (hm : m < 256) (hb : b < 8) :
    m ^^^ 2 ^ b < 256 ∧ rowsOk n (xs.set a ((m ^^^ 2 ^ b : Nat) : Int)) ∧ ∀ i j, bts (xs.set a ((m ^^^ 2 ^ b : Nat) : Int)) i j ↔ if i = a ∧ j = b then ¬ bts xs i j else bts xs i j := by
  have ha : a < xs.length := (List.getElem?_eq_some_iff.1 hx).1
  have hlt := xor_lt8 hm hb
  refine ⟨hlt, rowsOk_set h a hlt, fun i j => ?_⟩
  by_cases e : i = a
  · subst e
    rw [bts_set_same ha, xor_bit, bts_get hx]
    by_cases e2 : j = b
    · subst e2; cases m.testBit j <;> simp
    · rw [if_neg (fun hh => e2 hh.2)]
      have : ¬ b = j := fun hh => e2 hh.symm
      simp [this]
  · rw [if_neg (fun hh => e hh.1), bts_set_other e]
theorem tourOk_of {n : Nat} {xs : List Int} (h1 : 1 ≤ n) (h8 : n ≤ 8) (hr : rowsOk n xs) (hb : ∀ i j, i < n → j < n → i < j → (bts xs i j ↔ ¬ bts xs j i)) (hs : ∀ i, i < n → ¬ bts xs i i) (ho : ∀ i j, i < n → n ≤ j → j < 8 → ¬ bts xs i j) : tourOk (n : Int) xs := by
  refine ⟨by omega, by rw [hr.1], fun x hx => ?_, fun a ha => ?_⟩
  · obtain ⟨i, hi, rfl⟩ := List.getElem_of_mem hx
    rw [hr.1] at hi ⊢
    obtain ⟨m, hm, hm8⟩ := rowsOk_get hr hi
    have e : xs[i]'(by rw [hr.1]; exact hi) = (m : Int) := by
      have := List.getElem?_eq_getElem (l := xs) (i := i) (by rw [hr.1]; exact hi)
      rw [hm] at this; exact (Option.some.inj this).symm
    rw [e]
    have hlt : m < 2 ^ n := by
      apply Nat.lt_pow_two_of_testBit
      intro j hj
      cases et : m.testBit j with
      | false => rfl
      | true =>
        rcases Nat.lt_or_ge j 8 with h | h
        · exact absurd ((bts_get hm j).2 et) (ho i j hi hj h)
        · rw [Nat.testBit_lt_two_pow (Nat.lt_of_lt_of_le (show m < 2 ^ 8 by omega) (Nat.pow_le_pow_right (by omega) h))] at et; cases et
    have h3 : ((2 ^ n : Nat) : Int) = (2 : Int) ^ n := by simp
    rw [← h3]
    omega
  · rw [hr.1] at ha
    refine ⟨fun b hba => ?_, hs a ha⟩
    have := hb b a (by omega) ha hba
    by_cases e1 : bts xs a b <;> by_cases e2 : bts xs b a <;> simp_all
theorem tourOk_rows {n : Nat} {xs : List Int} (h : tourOk (n : Int) xs) : rowsOk n xs := ⟨by have := tourOk_size h; omega, fun x hx => by have := tourOk_row h x hx; omega⟩
theorem tourOk_high {n : Nat} {xs : List Int} (h : tourOk (n : Int) xs) {i j : Nat} (hi : i < n) (hj : n ≤ j) : ¬ bts xs i j := by
  have hsz := tourOk_size h
  have e : xs.length = n := by omega
  obtain ⟨m, hm, hlt⟩ := row_nat h (a := i) (by omega)
  rw [bts_get hm, Nat.testBit_lt_two_pow (Nat.lt_of_lt_of_le hlt (Nat.pow_le_pow_right (by omega) (by omega)))]
  simp

/-! ### A tour out of bits -/
def prOf (n a b i j : Nat) : Prop := i < j ∧ j < n ∧ (i < a ∨ i = a ∧ j < b)
def OfSt (n a b : Nat) (xs : List Int) : Prop := rowsOk n xs ∧ ∀ i j, i < 8 → j < 8 → (prOf n a b i j → (bts xs i j ↔ ¬ bts xs j i)) ∧ (¬ prOf n a b i j → ¬ prOf n a b j i → ¬ bts xs i j)
theorem zero_bts (n i j : Nat) : ¬ bts (List.replicate n (0 : Int)) i j := by
  rcases Nat.lt_or_ge i n with h | h
  · rw [bts_nat (m := 0) (by rw [List.getElem?_replicate, if_pos h]; rfl)]; simp
  · exact bts_out (by simpa using h) j
theorem ofSt_start (n : Nat) : OfSt n 0 1 (List.replicate n 0) := by
  refine ⟨⟨by simp, fun x hx => by rw [List.eq_of_mem_replicate hx]; omega⟩, fun i j hi hj => ⟨fun h => ?_, fun _ _ => zero_bts n i j⟩⟩
  obtain ⟨h1, h2, h3⟩ := h
  omega
theorem ofSt_none {n a b : Nat} {xs : List Int} (h : OfSt n a b xs) (hab : a < b) (hbn : b < n) (hn : n ≤ 8) : ¬ bts xs a b ∧ ¬ bts xs b a := by
  have h1 : ¬ prOf n a b a b := fun h => by obtain ⟨_, _, h3⟩ := h; omega
  have h2 : ¬ prOf n a b b a := fun h => by obtain ⟨h3, _⟩ := h; omega
  exact ⟨(h.2 a b (by omega) (by omega)).2 h1 h2, (h.2 b a (by omega) (by omega)).2 h2 h1⟩
theorem ofSt_step {n a b : Nat} {xs ys : List Int} (h : OfSt n a b xs) (hab : a < b) (hbn : b < n) (hn : n ≤ 8) (hy : rowsOk n ys) (u v : Nat) (huv : (u = a ∧ v = b) ∨ (u = b ∧ v = a)) (hb : ∀ i j, j < 8 → (bts ys i j ↔ bts xs i j ∨ (i = u ∧ j = v))) : OfSt n a (b + 1) ys := by
  obtain ⟨n1, n2⟩ := ofSt_none h hab hbn hn
  refine ⟨hy, fun i j hi hj => ⟨fun hp => ?_, fun hp1 hp2 => ?_⟩⟩
  · rw [hb i j hj, hb j i hi]
    obtain ⟨p1, p2, p3⟩ := hp
    by_cases e : i = a ∧ j = b
    · obtain ⟨rfl, rfl⟩ := e
      rcases huv with ⟨rfl, rfl⟩ | ⟨rfl, rfl⟩
      · constructor
        · rintro _ (h | h)
          · exact n2 h
          · omega
        · intro _; exact .inr ⟨rfl, rfl⟩
      · constructor
        · rintro (h | h)
          · exact absurd h n1
          · omega
        · intro h; exact absurd (.inr ⟨rfl, rfl⟩) h
    · have hq : prOf n a b i j := ⟨p1, p2, by omega⟩
      have := (h.2 i j hi hj).1 hq
      have e1 : ¬ (i = u ∧ j = v) := by omega
      have e2 : ¬ (j = u ∧ i = v) := by omega
      simp only [e1, e2, or_false]
      exact this
  · rw [hb i j hj]
    rintro (hh | hh)
    · refine (h.2 i j hi hj).2 (fun hq => hp1 ?_) (fun hq => hp2 ?_) hh
      · obtain ⟨q1, q2, q3⟩ := hq; exact ⟨q1, q2, by omega⟩
      · obtain ⟨q1, q2, q3⟩ := hq; exact ⟨q1, q2, by omega⟩
    · rcases huv with ⟨rfl, rfl⟩ | ⟨rfl, rfl⟩
      · exact hp1 ⟨by omega, by omega, by omega⟩
      · exact hp2 ⟨by omega, by omega, by omega⟩
theorem ofSt_next {n a : Nat} {xs : List Int} (h : OfSt n a n xs) : OfSt n (a + 1) (a + 2) xs := by
  refine ⟨h.1, fun i j hi hj => ⟨fun hp => (h.2 i j hi hj).1 ?_, fun h1 h2 => (h.2 i j hi hj).2 (fun hp => h1 ?_) (fun hp => h2 ?_)⟩⟩
  · obtain ⟨p1, p2, p3⟩ := hp; exact ⟨p1, p2, by omega⟩
  · obtain ⟨p1, p2, p3⟩ := hp; exact ⟨p1, p2, by omega⟩
  · obtain ⟨p1, p2, p3⟩ := hp; exact ⟨p1, p2, by omega⟩
theorem ofSt_end {n b : Nat} {xs : List Int} (h1 : 1 ≤ n) (h8 : n ≤ 8) (h : OfSt n n b xs) : tourOk (n : Int) xs := by
  refine tourOk_of h1 h8 h.1 (fun i j hi hj hij => (h.2 i j (by omega) (by omega)).1 ⟨hij, hj, .inl hi⟩) (fun i hi => ?_) (fun i j hi hj h8j => ?_)
  · refine (h.2 i i (by omega) (by omega)).2 (fun hp => ?_) (fun hp => ?_) <;> (obtain ⟨p1, _⟩ := hp; omega)
  · refine (h.2 i j (by omega) h8j).2 (fun hp => ?_) (fun hp => ?_)
    · obtain ⟨_, p2, _⟩ := hp; omega
    · obtain ⟨p1, p2, _⟩ := hp; omega

/-! ### One result reversed -/
theorem flip_ok {n : Nat} {xs : List Int} (ht : tourOk (n : Int) xs) {a b ma mb : Nat} (hne : a ≠ b) (ha : xs[a]? = some (ma : Int)) (hb : xs[b]? = some (mb : Int)) (hma : ma < 256) (hmb : mb < 256) (han : a < n) (hbn : b < n) :
    tourOk (n : Int) ((xs.set a ((ma ^^^ 2 ^ b : Nat) : Int)).set b ((mb ^^^ 2 ^ a : Nat) : Int)) := by
  have hsz := tourOk_size ht
  have hl : xs.length = n := by omega
  obtain ⟨_, r1, b1⟩ := bts_xor (tourOk_rows ht) ha hma (show b < 8 by omega)
  obtain ⟨_, r2, b2⟩ := bts_xor r1 (a := b) (b := a) (m := mb) (by rw [List.getElem?_set_ne hne]; exact hb) hmb (by omega)
  have key : ∀ i j, bts ((xs.set a ((ma ^^^ 2 ^ b : Nat) : Int)).set b ((mb ^^^ 2 ^ a : Nat) : Int)) i j ↔ if (i = a ∧ j = b) ∨ (i = b ∧ j = a) then ¬ bts xs i j else bts xs i j := fun i j => by
    rw [b2 i j]
    by_cases e1 : i = b ∧ j = a
    · rw [if_pos e1, if_pos (.inr e1), b1 i j, if_neg (by omega)]
    · rw [if_neg e1, b1 i j]
      by_cases e2 : i = a ∧ j = b
      · rw [if_pos e2, if_pos (.inl e2)]
      · rw [if_neg e2, if_neg (by omega)]
  refine tourOk_of (by omega) (by omega) r2 (fun i j hi hj hij => ?_) (fun i hi => ?_) (fun i j hi hj h8 => ?_)
  · rw [key i j, key j i]
    have := bts_anti ht (a := i) (b := j) (by omega) (by omega) (by omega)
    by_cases e : (i = a ∧ j = b) ∨ (i = b ∧ j = a)
    · rw [if_pos e, if_pos (by omega)]
      by_cases e1 : bts xs i j <;> by_cases e2 : bts xs j i <;> simp_all
    · rw [if_neg e, if_neg (by omega)]; exact this
  · rw [key i i, if_neg (by omega)]; exact bts_self ht (by omega)
  · rw [key i j, if_neg (by omega)]; exact tourOk_high ht hi hj

/-! ### Other names -/
def doneR (a b i j : Nat) : Prop := i < a ∨ i = a ∧ j < b
def RenSt (n : Nat) (xs names : List Int) (a b : Nat) (zs : List Int) : Prop := rowsOk n zs ∧ ∀ u v : Nat, v < 8 → (bts zs u v ↔ ∃ i j, i < n ∧ j < n ∧ names[i]? = some (u : Int) ∧ names[j]? = some (v : Int) ∧ doneR a b i j ∧ bts xs i j)
theorem renSt_start (n : Nat) (xs names : List Int) : RenSt n xs names 0 0 (List.replicate n 0) := by
  refine ⟨⟨by simp, fun x hx => by rw [List.eq_of_mem_replicate hx]; omega⟩, fun u v hv => ⟨fun h => absurd h (zero_bts n u v), ?_⟩⟩
  rintro ⟨i, j, _, _, _, _, h, _⟩
  unfold doneR at h
  omega
theorem nodup_idx {l : List Int} (h : l.Nodup) {i j : Nat} {x : Int} (hi : l[i]? = some x) (hj : l[j]? = some x) : i = j := by
  exact (List.getElem?_inj (List.getElem?_eq_some_iff.1 hi).1 h).1 (hi.trans hj.symm)
theorem renSt_no {n : Nat} {xs names zs : List Int} {a b : Nat} (h : RenSt n xs names a b zs) (hn : ¬ bts xs a b) : RenSt n xs names a (b + 1) zs := by
  refine ⟨h.1, fun u v hv => ?_⟩
  rw [h.2 u v hv]
  constructor
  · rintro ⟨i, j, h1, h2, h3, h4, h5, h6⟩
    exact ⟨i, j, h1, h2, h3, h4, by unfold doneR at *; omega, h6⟩
  · rintro ⟨i, j, h1, h2, h3, h4, h5, h6⟩
    refine ⟨i, j, h1, h2, h3, h4, ?_, h6⟩
    by_cases e : i = a ∧ j = b
    · obtain ⟨rfl, rfl⟩ := e; exact absurd h6 hn
    · unfold doneR at *; omega
theorem renSt_yes {n : Nat} {xs names zs : List Int} {a b u v m : Nat} (hn8 : n ≤ 8) (hnd : names.Nodup) (h : RenSt n xs names a b zs) (hb : bts xs a b) (han : a < n) (hbn : b < n) (hu : names[a]? = some (u : Int)) (hv : names[b]? = some (v : Int)) (hv8 : v < 8)
    (hm : zs[u]? = some (m : Int)) (hm8 : m < 256) : m + 2 ^ v < 256 ∧ RenSt n xs names a (b + 1) (zs.set u ((m + 2 ^ v : Nat) : Int)) := by
  have hno : ¬ bts zs u v := by
    rw [h.2 u v hv8]
    rintro ⟨i, j, h1, h2, h3, h4, h5, h6⟩
    have e1 := nodup_idx hnd hu h3
    have e2 := nodup_idx hnd hv h4
    unfold doneR at h5
    omega
  obtain ⟨k1, k2, k3⟩ := bts_add h.1 hm hm8 hv8 hno
  refine ⟨k1, k2, fun u' v' hv' => ?_⟩
  rw [k3 u' v' hv', h.2 u' v' hv']
  constructor
  · rintro (⟨i, j, h1, h2, h3, h4, h5, h6⟩ | ⟨rfl, rfl⟩)
    · exact ⟨i, j, h1, h2, h3, h4, by unfold doneR at *; omega, h6⟩
    · exact ⟨a, b, han, hbn, hu, hv, by unfold doneR; omega, hb⟩
  · rintro ⟨i, j, h1, h2, h3, h4, h5, h6⟩
    by_cases e : i = a ∧ j = b
    · obtain ⟨rfl, rfl⟩ := e
      rw [hu] at h3; rw [hv] at h4
      have e1 := Option.some.inj h3
      have e2 := Option.some.inj h4
      exact .inr ⟨by omega, by omega⟩
    · exact .inl ⟨i, j, h1, h2, h3, h4, by unfold doneR at *; omega, h6⟩
theorem renSt_next {n : Nat} {xs names zs : List Int} {a : Nat} (h : RenSt n xs names a n zs) : RenSt n xs names (a + 1) 0 zs := by
  refine ⟨h.1, fun u v hv => ?_⟩
  rw [h.2 u v hv]
  constructor <;> (rintro ⟨i, j, h1, h2, h3, h4, h5, h6⟩; exact ⟨i, j, h1, h2, h3, h4, by unfold doneR at *; omega, h6⟩)
/-- An order of the first n numbers. -/
def isPerm (n : Nat) (o : List Int) : Prop := o.length = n ∧ o.Nodup ∧ ∀ x ∈ o, 0 ≤ x ∧ x < (n : Int)
theorem bit_ltF {v a : Nat} (hv : v < 256) (h : v.testBit a = true) : a < 8 := by
  rcases Nat.lt_or_ge a 8 with h1 | h1
  · exact h1
  · rw [Nat.testBit_lt_two_pow (Nat.lt_of_lt_of_le (show v < 2 ^ 8 by omega) (Nat.pow_le_pow_right (by omega) h1))] at h; cases h
theorem pc_full : ∀ n : Nat, n < 9 → ∀ m : Nat, m < 256 → m < 2 ^ n → pc m = n → m = 2 ^ n - 1 := by decide +kernel
theorem nodup_full {n : Nat} {o : List Int} (hn8 : n ≤ 8) (h : isPerm n o) : ∀ u : Nat, u < n → ∃ i, i < n ∧ o[i]? = some (u : Int) := by
  intro u hu
  have hb : ∀ x ∈ o, 0 ≤ x ∧ x < 8 := fun x hx => by have := h.2.2 x hx; omega
  obtain ⟨h1, h2⟩ := orN_bits o hb
  have h3 := (orN_pc o hb).2.2 h.2.1
  have hlt : orN o < 2 ^ n := by
    apply Nat.lt_pow_two_of_testBit
    intro i hi
    cases e : (orN o).testBit i with
    | false => rfl
    | true =>
      have h8 := bit_ltF h1 e
      rw [h2 i h8] at e
      have := h.2.2 (i : Int) (by simpa using e)
      omega
  have he := pc_full n (by omega) _ h1 hlt (by rw [h3, h.1])
  have hbit : (orN o).testBit u = true := by rw [he, Nat.testBit_two_pow_sub_one]; simpa using hu
  rw [h2 u (by omega)] at hbit
  have hm : (u : Int) ∈ o := by simpa using hbit
  obtain ⟨i, hi, e⟩ := List.getElem_of_mem hm
  exact ⟨i, by rw [← h.1]; exact hi, by rw [List.getElem?_eq_getElem hi, e]⟩
theorem renSt_end {n : Nat} {xs names zs : List Int} (ht : tourOk (n : Int) xs) (hp : isPerm n names) (h : RenSt n xs names n 0 zs) : tourOk (n : Int) zs := by
  have hsz := tourOk_size ht
  have hl : xs.length = n := by omega
  have key : ∀ i j u v : Nat, i < n → j < n → names[i]? = some (u : Int) → names[j]? = some (v : Int) → v < 8 → (bts zs u v ↔ bts xs i j) := fun i j u v hi hj hu hv hv8 => by
    rw [h.2 u v hv8]
    constructor
    · rintro ⟨i', j', h1, h2, h3, h4, h5, h6⟩
      rw [nodup_idx hp.2.1 hu h3, nodup_idx hp.2.1 hv h4]; exact h6
    · intro hb; exact ⟨i, j, hi, hj, hu, hv, .inl hi, hb⟩
  refine tourOk_of (by omega) (by omega) h.1 (fun u v hu hv huv => ?_) (fun u hu => ?_) (fun u v hu hv h8 => ?_)
  · obtain ⟨i, hi, ei⟩ := nodup_full (by omega) hp u hu
    obtain ⟨j, hj, ej⟩ := nodup_full (by omega) hp v hv
    rw [key i j u v hi hj ei ej (by omega), key j i v u hj hi ej ei (by omega)]
    refine bts_anti ht (by omega) (by omega) ?_
    rintro rfl
    rw [ei] at ej
    have := Option.some.inj ej
    omega
  · obtain ⟨i, hi, ei⟩ := nodup_full (by omega) hp u hu
    rw [key i i u u hi hi ei ei (by omega)]
    exact bts_self ht (by omega)
  · rw [h.2 u v h8]
    rintro ⟨i, j, h1, h2, h3, h4, h5, h6⟩
    have := hp.2.2 _ (List.mem_of_getElem? h4)
    omega
/-! ### An order, drawn -/
theorem isPerm_insert {n k : Nat} {l : List Int} (h : isPerm n l) : isPerm (n + 1) (l.take k ++ [(n : Int)] ++ l.drop k) := by
  have hp : (l.take k ++ [(n : Int)] ++ l.drop k).Perm ((n : Int) :: l) := by
    have h1 : (l.take k ++ [(n : Int)] ++ l.drop k).Perm ([(n : Int)] ++ l.take k ++ l.drop k) := List.Perm.append_right _ List.perm_append_comm
    rw [List.append_assoc, List.append_assoc, List.take_append_drop] at h1
    rw [List.append_assoc]
    exact h1
  refine ⟨by rw [hp.length_eq, List.length_cons, h.1], hp.nodup_iff.2 (List.nodup_cons.2 ⟨fun hm => ?_, h.2.1⟩), fun x hx => ?_⟩
  · have := h.2.2 _ hm; omega
  · rcases List.mem_cons.1 (hp.mem_iff.1 hx) with rfl | hx
    · omega
    · have := h.2.2 x hx; omega

end Go.Proofs.YtbaljgdepicigaaDoor
/-
  Plain lemmas on stable orders by insertion: no program.
-/
namespace Go.Proofs.YtbaljgdepicigaaDoor
set_option linter.unusedVariables false

def vO (xs : List Int) (a : Int) : Int := xs.getD a.toNat 0
/-- Where a value goes, from place k down. -/
def posO (xs out : List Int) (x : Int) : Nat → Nat
  | 0 => 0
  | k + 1 => if vO xs (out.getD k 0) < x then posO xs out x k else k + 1
theorem posO_le (xs out : List Int) (x : Int) (k : Nat) : posO xs out x k ≤ k := by
  induction k with
  | zero => simp [posO]
  | succ k ih => simp only [posO]; split <;> omega
def insO (out : List Int) (i : Int) (p : Nat) : List Int := out.take p ++ [i] ++ out.drop p
theorem insO_len (out : List Int) (i : Int) {p : Nat} (h : p ≤ out.length) : (insO out i p).length = out.length + 1 := by simp [insO]; omega
def orderO (xs : List Int) : Nat → List Int
  | 0 => []
  | i + 1 => insO (orderO xs i) (i : Int) (posO xs (orderO xs i) (vO xs (i : Int)) i)
theorem orderO_len (xs : List Int) (i : Nat) : (orderO xs i).length = i := by
  induction i with
  | zero => rfl
  | succ i ih => simp only [orderO]; rw [insO_len _ _ (by rw [ih]; exact posO_le _ _ _ _), ih]
theorem orderO_mem (xs : List Int) (i : Nat) : ∀ a ∈ orderO xs i, 0 ≤ a ∧ a < i := by
  induction i with
  | zero => intro a h; cases h
  | succ i ih =>
    intro a h
    simp only [orderO, insO] at h
    rcases List.mem_append.1 h with h | h
    · rcases List.mem_append.1 h with h | h
      · have := ih a (List.mem_of_mem_take h); omega
      · simp at h; omega
    · have := ih a (List.mem_of_mem_drop h); omega
theorem insO_at (out : List Int) (i : Int) {p : Nat} (h : p ≤ out.length) : (insO out i p)[p]? = some i := by
  unfold insO
  have hl : (out.take p).length = p := by simp; omega
  rw [List.append_assoc, List.getElem?_append_right (by omega), hl, Nat.sub_self]
  rfl
theorem insO_before (out : List Int) (i : Int) {p : Nat} (h : p + 1 ≤ out.length) : (insO out i (p + 1))[p]? = out[p]? := by
  unfold insO
  rw [List.append_assoc, List.getElem?_append_left (by simp; omega), List.getElem?_take, if_pos (by omega)]
theorem insO_after (out : List Int) (i : Int) {p q : Nat} (h : p ≤ out.length) (hq : p < q) : (insO out i p)[q]? = out[q - 1]? := by
  unfold insO
  have hl : (out.take p ++ [i]).length = p + 1 := by simp; omega
  rw [List.getElem?_append_right (by omega), hl, List.getElem?_drop]
  congr 1
  omega
theorem insO_swap {out rest : List Int} {i y : Int} {p : Nat} (h : out[p]? = some y) : (((insO out i (p + 1)) ++ rest).set (p + 1) y).set p i = insO out i p ++ rest := by
  have hp : p < out.length := (List.getElem?_eq_some_iff.1 h).1
  apply List.ext_getElem?
  intro q
  have hl : (insO out i (p + 1)).length = out.length + 1 := insO_len _ _ (by omega)
  have hl2 : (insO out i p).length = out.length + 1 := insO_len _ _ (by omega)
  rw [List.getElem?_set]
  by_cases e1 : p = q
  · subst e1
    rw [if_pos rfl, if_pos (by simp; omega), List.getElem?_append_left (by omega), insO_at _ _ (by omega)]
  · rw [if_neg e1, List.getElem?_set]
    by_cases e2 : p + 1 = q
    · subst e2
      rw [if_pos rfl, if_pos (by simp; omega), List.getElem?_append_left (by omega)]
      unfold insO
      rw [List.append_assoc, List.getElem?_append_right (by simp; omega)]
      have h9 : (out.take p).length = p := by simp; omega
      rw [h9, show p + 1 - p = 1 by omega]
      simp [h]
    · rw [if_neg e2]
      by_cases hq : q < out.length + 1
      · rw [List.getElem?_append_left (by omega), List.getElem?_append_left (by omega)]
        by_cases hqp : q < p
        · unfold insO
          rw [List.append_assoc, List.append_assoc, List.getElem?_append_left (by simp; omega), List.getElem?_append_left (by simp; omega), List.getElem?_take, List.getElem?_take, if_pos (by omega), if_pos (by omega)]
        · rw [insO_after _ _ (by omega) (by omega), insO_after _ _ (by omega) (by omega)]
      · rw [List.getElem?_append_right (by omega), List.getElem?_append_right (by omega), hl, hl2]
theorem insO_end (out : List Int) (i : Int) {k : Nat} (h : out.length = k) : insO out i k = out ++ [i] := by
  unfold insO; rw [take_len h, List.drop_of_length_le (by omega), List.append_nil]
/-- The data while element i is put in: at place j. -/
def midO (xs : List Int) (n i j : Nat) : List Int := insO (orderO xs i) (i : Int) j ++ (upto n).drop (i + 1)
theorem upto_drop {n i : Nat} (h : i < n) : (upto n).drop i = (i : Int) :: (upto n).drop (i + 1) := by
  rw [List.drop_eq_getElem_cons (by rw [upto_len]; exact h)]
  congr 1
  have := upto_get h
  rw [List.getElem?_eq_getElem (by rw [upto_len]; exact h)] at this
  simpa using this
theorem midO_start (xs : List Int) {n i : Nat} (h : i < n) : orderO xs i ++ (upto n).drop i = midO xs n i i := by
  unfold midO; rw [insO_end _ _ (orderO_len xs i), upto_drop h]; simp
theorem midO_end (xs : List Int) (n i : Nat) : midO xs n i (posO xs (orderO xs i) (vO xs (i : Int)) i) = orderO xs (i + 1) ++ (upto n).drop (i + 1) := rfl
theorem midO_at (xs : List Int) {n i j : Nat} (h : j ≤ i) : (midO xs n i j)[j]? = some (i : Int) := by
  unfold midO
  rw [List.getElem?_append_left (by rw [insO_len _ _ (by rw [orderO_len]; exact h), orderO_len]; omega), insO_at _ _ (by rw [orderO_len]; exact h)]
theorem midO_before (xs : List Int) {n i j : Nat} (h : j + 1 ≤ i) : (midO xs n i (j + 1))[j]? = (orderO xs i)[j]? := by
  unfold midO
  rw [List.getElem?_append_left (by rw [insO_len _ _ (by rw [orderO_len]; exact h), orderO_len]; omega), insO_before _ _ (by rw [orderO_len]; exact h)]
theorem midO_swap (xs : List Int) {n i j : Nat} {y : Int} (h : (orderO xs i)[j]? = some y) : ((midO xs n i (j + 1)).set (j + 1) y).set j (i : Int) = midO xs n i j := insO_swap h
theorem midO_len (xs : List Int) {n i j : Nat} (hi : i < n) (h : j ≤ i) : (midO xs n i j).length = n := by
  unfold midO; rw [List.length_append, insO_len _ _ (by rw [orderO_len]; exact h), orderO_len, List.length_drop, upto_len]; omega

end Go.Proofs.YtbaljgdepicigaaDoor
