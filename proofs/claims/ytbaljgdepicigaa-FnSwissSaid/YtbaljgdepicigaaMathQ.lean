/-
  Plain lemmas on schedules of as many days as the busiest team has games: no program.
-/
import Derived.Test.YtbaljgdepicigaaBase
import Derived.Test.YtbaljgdepicigaaMathA
import Derived.Test.YtbaljgdepicigaaMathD
import Derived.Test.YtbaljgdepicigaaMathG
namespace Go.Proofs.Ytbaljgdepicigaa
set_option linter.unusedVariables false

theorem hasG_cnt (rows : List (List Int)) (n s t : Nat) (hn : n ≤ rows.length) : (hasG rows n s (t : Int) : Int) = cntL (side s (rows.take n)) t := by
  induction n with
  | zero => simp [hasG, side, cntL]
  | succ n ih =>
    have ih := ih (by omega)
    have hr : rows[n]? = some rows[n] := List.getElem?_eq_getElem (by omega)
    rw [side_snoc s hr]
    have ht : teamAt rows n s = (rows[n]).getD s 0 := by unfold teamAt; simp [List.getD, hr]
    unfold hasG at ih ⊢
    rw [List.range_succ, List.countP_append]
    unfold cntL at ih ⊢
    rw [List.countP_append]
    simp only [List.countP_cons, List.countP_nil, ht]
    by_cases e : (rows[n]).getD s 0 = (t : Int)
    · simp at ih ⊢; omega
    · simp at ih ⊢; omega
theorem busy_ge {rows : List (List Int)} {s t : Nat} (hs : s < 2) (ht : t < 6) : cntL (side s rows) t ≤ busiest rows := by
  have h1 : cntL (side s rows) t ≤ maxL (counts 6 (side s rows)) := le_maxL (List.mem_of_getElem? (counts_get (side s rows) ht))
  unfold busiest
  rcases (show s = 0 ∨ s = 1 by omega) with rfl | rfl <;> omega
theorem team_nat {rows : List (List Int)} (hok : gamesOk rows) {k s : Nat} (hk : k < rows.length) (hs : s < 2) : ∃ t : Nat, teamAt rows k s = (t : Int) ∧ t < 6 := by
  have hr : rows[k]? = some rows[k] := List.getElem?_eq_getElem hk
  obtain ⟨a, b, e, ha, hb⟩ := gameOk_two (hok.2 rows[k] (List.getElem_mem hk))
  have ht : teamAt rows k s = (rows[k]).getD s 0 := by unfold teamAt; simp [List.getD, hr]
  rw [ht, e]
  rcases (show s = 0 ∨ s = 1 by omega) with rfl | rfl
  · exact ⟨a, rfl, by omega⟩
  · exact ⟨b, rfl, by omega⟩
theorem sched_busy {rows : List (List Int)} (hok : gamesOk rows) : daysOk rows rows.length (busiest rows) (sched rows rows.length) :=
  sched_ok (fun k hk s hs => by
    obtain ⟨t, ht, ht6⟩ := team_nat hok hk hs
    rw [ht, hasG_cnt rows rows.length s t (Nat.le_refl _), List.take_length]
    exact busy_ge hs ht6) (Nat.le_refl _)
theorem sched_is {rows : List (List Int)} (hok : gamesOk rows) : isSchedule rows (sched rows rows.length) := by
  have h := sched_ok18 hok.1 (Nat.le_refl rows.length)
  refine ⟨hok, h.len, fun d hd => by have := h.low d hd; omega, fun i hi k hk hc => ?_⟩
  have hik : i ≠ k := by omega
  obtain ⟨hd, ht⟩ := hc
  rcases ht with ht | ht
  · exact hik (h.prop i (by rw [h.len]; exact hi) k (by rw [h.len]; omega) hd 0 (by omega) ht)
  · exact hik (h.prop i (by rw [h.len]; exact hi) k (by rw [h.len]; omega) hd 1 (by omega) ht)
/-- Who plays on a day is not idle. -/
theorem onTo_at {rows : List (List Int)} {days : List Int} {day : Int} {k : Nat} : ∀ r ∈ onTo rows days day k, ∃ i, i < k ∧ days.getD i 0 = day ∧ r = rows.getD i [] := by
  induction k with
  | zero => intro r hr; simp [onTo] at hr
  | succ k ih =>
    intro r hr
    simp only [onTo] at hr
    rcases List.mem_append.1 hr with hr | hr
    · obtain ⟨i, hi, h1, h2⟩ := ih r hr; exact ⟨i, by omega, h1, h2⟩
    · split at hr
      · rename_i hd; simp at hr; exact ⟨k, by omega, hd, by simp [List.getD, hr]⟩
      · cases hr
theorem idleTo_not {rows : List (List Int)} {days : List Int} {day x : Int} {s k : Nat} (h : x ∈ idleTo rows days s day k) : fnd rows days s x day < 0 := by
  induction k with
  | zero => cases h
  | succ k ih =>
    simp only [idleTo] at h
    rcases List.mem_append.1 h with h | h
    · exact ih h
    · split at h
      · rename_i hi
        simp at h
        subst h
        unfold idleAt at hi
        simp at hi
        exact hi.2
      · cases h
theorem plays_not_idle {rows : List (List Int)} {days : List Int} {day : Int} {s : Nat} (hl : days.length = rows.length) : ∀ r ∈ onTo rows days day rows.length, ¬ r.getD s 0 ∈ idleTo rows days s day 6 := by
  intro r hr hm
  obtain ⟨i, hi, hd, e⟩ := onTo_at r hr
  have h1 := idleTo_not hm
  have h2 := fnd_ex (rows := rows) (days := days) (s := s) (t := r.getD s 0) (d := day) (i := i) (by omega) hd (by rw [e]; rfl)
  omega

/-! ### Sums and maxima over the days -/
def sumC (f : Nat → Int) : Nat → Int
  | 0 => 0
  | k + 1 => sumC f k + f k
def maxC (f : Nat → Int) : Nat → Int
  | 0 => 0
  | k + 1 => max (maxC f k) (f k)
theorem sumC_add (f g : Nat → Int) (b : Nat) : sumC (fun t => f t + g t) b = sumC f b + sumC g b := by
  induction b with
  | zero => rfl
  | succ b ih => simp only [sumC, ih]; omega
theorem sumC_congr {f g : Nat → Int} {b : Nat} (h : ∀ t, t < b → f t = g t) : sumC f b = sumC g b := by
  induction b with
  | zero => rfl
  | succ b ih => simp only [sumC]; rw [ih fun t ht => h t (by omega), h b (by omega)]
theorem sumC_one {x b : Nat} (h : x < b) : sumC (fun t => if x = t then 1 else 0) b = 1 := by
  have key : ∀ k : Nat, sumC (fun t => if x = t then 1 else 0) k = if x < k then 1 else 0 := by
    intro k
    induction k with
    | zero => simp [sumC]
    | succ k ih =>
      simp only [sumC, ih]
      by_cases e : x = k
      · rw [if_neg (by omega), if_pos e, if_pos (by omega)]; rfl
      · rw [if_neg e]
        by_cases e2 : x < k
        · rw [if_pos e2, if_pos (by omega)]; rfl
        · rw [if_neg e2, if_neg (by omega)]; rfl
  rw [key b, if_pos h]
theorem cntL_cons (x : Int) (l : List Int) (t : Nat) : cntL (x :: l) t = cntL l t + if x = (t : Int) then 1 else 0 := by
  unfold cntL
  rw [List.countP_cons]
  by_cases e : x = (t : Int)
  · simp [e]
  · simp [e]
theorem sumC_all {b : Nat} : ∀ (l : List Int), (∀ d ∈ l, 0 ≤ d ∧ d < (b : Int)) → sumC (cntL l) b = l.length := by
  intro l
  induction l with
  | nil =>
    intro _
    have : ∀ k, sumC (cntL []) k = 0 := by intro k; induction k with | zero => rfl | succ k ih => simp only [sumC, ih]; simp [cntL]
    rw [this]; rfl
  | cons x l ih =>
    intro h
    have hx := h x (by simp)
    have ih := ih fun d hd => h d (by simp [hd])
    have e : sumC (cntL (x :: l)) b = sumC (fun t => cntL l t + if x.toNat = t then 1 else 0) b := sumC_congr fun t ht => by
      rw [cntL_cons]
      by_cases e : x = (t : Int)
      · rw [if_pos e, if_pos (by omega)]
      · rw [if_neg e, if_neg (by omega)]
    rw [e, sumC_add, ih, sumC_one (by omega)]
    simp
theorem cntL_none {l : List Int} {b t : Nat} (h : ∀ d ∈ l, 0 ≤ d ∧ d < (b : Int)) (ht : b ≤ t) : cntL l t = 0 := by
  unfold cntL
  have : l.countP (fun x => x == (t : Int)) = 0 := by
    rw [List.countP_eq_zero]
    intro d hd
    have := h d hd
    simp
    omega
  rw [this]; rfl
theorem maxC_counts (l : List Int) : ∀ k : Nat, k ≤ 18 → maxC (cntL l) k = maxL ((counts 18 l).take k) := by
  intro k
  induction k with
  | zero => intro _; simp [maxC, maxL]
  | succ k ih => intro hk; simp only [maxC]; rw [ih (by omega), maxL_counts_take 18 l k (by omega)]
theorem maxC_all {l : List Int} {b : Nat} (h : ∀ d ∈ l, 0 ≤ d ∧ d < (b : Int)) (hb : b ≤ 18) : maxC (cntL l) b = maxL (counts 18 l) := by
  have key : ∀ j : Nat, b + j ≤ 18 → maxC (cntL l) (b + j) = maxC (cntL l) b := by
    intro j
    induction j with
    | zero => intro _; rfl
    | succ j ih =>
      intro hj
      rw [← Nat.add_assoc]
      simp only [maxC]
      rw [ih (by omega), cntL_none h (by omega)]
      have : 0 ≤ maxC (cntL l) b := by rw [maxC_counts l b hb]; exact maxL_ge _
      omega
  have h1 := key (18 - b) (by omega)
  rw [show b + (18 - b) = 18 by omega, maxC_counts l 18 (Nat.le_refl _), take_len (counts_len 18 l)] at h1
  exact h1.symm

/-! ### Moves -/
theorem set_self_getD {l : List Int} {i : Nat} {v : Int} (hv : l.getD i 0 = v) : l.set i v = l := by
  apply List.ext_getElem?
  intro j
  rw [List.getElem?_set]
  by_cases e : i = j
  · subst e
    rw [if_pos rfl]
    by_cases hl : i < l.length
    · rw [if_pos hl, List.getElem?_eq_getElem hl, ← hv]; simp [List.getD, hl]
    · rw [if_neg hl, List.getElem?_eq_none (by omega)]
  · rw [if_neg e]
theorem move_self {rows : List (List Int)} {ds : List Int} {i : Nat} {v : Int} (h : isSchedule rows ds) (hi : i < rows.length) (hv : ds.getD i 0 = v) : mayMove rows ds (i : Int) v ∧ moved rows ds (i : Int) v = ds := by
  have hs := set_self_getD hv
  have hm : mayMove rows ds (i : Int) v := ⟨h, by omega, by rw [Int.toNat_natCast, hs]; exact h⟩
  exact ⟨hm, by unfold moved; rw [if_pos hm, Int.toNat_natCast, hs]⟩
theorem move_past {rows : List (List Int)} {ds : List Int} {i : Nat} {b : Int} (h : isSchedule rows ds) (hi : i < rows.length) (hb : ∀ d ∈ ds, d < b) (h0 : 0 ≤ b) (h18 : b < 18) : mayMove rows ds (i : Int) b ∧ moved rows ds (i : Int) b = ds.set i b := by
  have hl := h.2.1
  have hne : ∀ j, j < rows.length → ds.getD j 0 < b := fun j hj => hb _ (getD_mem0 (by omega))
  have hi' : i < ds.length := by omega
  have hsch : isSchedule rows (ds.set i b) := by
    refine ⟨h.1, by simp [hl], fun d hd => ?_, fun j hj k hk hc => ?_⟩
    · rcases List.mem_or_eq_of_mem_set hd with hd | rfl
      · exact h.2.2.1 d hd
      · omega
    · obtain ⟨hd, ht⟩ := hc
      rw [getD_set hi', getD_set hi'] at hd
      by_cases e1 : i = j
      · have e2 : ¬ i = k := by omega
        rw [if_pos e1, if_neg e2] at hd
        have := hne k (by omega)
        omega
      · by_cases e2 : i = k
        · rw [if_neg e1, if_pos e2] at hd
          have := hne j hj
          omega
        · rw [if_neg e1, if_neg e2] at hd
          exact h.2.2.2 j hj k hk ⟨hd, ht⟩
  have hm : mayMove rows ds (i : Int) b := ⟨h, by omega, by rw [Int.toNat_natCast]; exact hsch⟩
  exact ⟨hm, by unfold moved; rw [if_pos hm, Int.toNat_natCast]⟩

end Go.Proofs.Ytbaljgdepicigaa
