/-
  Plain lemmas on travel: the shortest tour, and a line of places. No program.
-/
import Derived.Test.YtbaljgdepicigaaBase
import Derived.Test.YtbaljgdepicigaaMathA
import Derived.Test.YtbaljgdepicigaaMathB
import Derived.Test.YtbaljgdepicigaaMathT
import Derived.Test.YtbaljgdepicigaaMathM
namespace Go.Proofs.Ytbaljgdepicigaa
set_option linter.unusedVariables false

theorem minOf_is {f : Int → Int} : ∀ (l : List Int), l ≠ [] → (∀ p ∈ l, 0 ≤ f p) → (∃ p ∈ l, f p = minOf f l) ∧ ∀ p ∈ l, minOf f l ≤ f p := by
  intro l
  rw [← List.reverse_reverse l]
  induction l.reverse with
  | nil => intro h; exact absurd rfl h
  | cons p r ih =>
    intro _ h
    rw [List.reverse_cons] at h ⊢
    have hp := h p (by simp)
    rw [minOf_snoc]
    by_cases hr : r = []
    · subst hr
      have e : minOf f ([] : List Int).reverse = -1 := rfl
      rw [e]
      refine ⟨⟨p, by simp, by simp⟩, fun q hq => ?_⟩
      simp at hq; subst hq; simp
    · obtain ⟨⟨q, hq, e⟩, hle⟩ := ih (by simpa using hr) fun q hq => h q (by simp at hq ⊢; exact .inl hq)
      have h0 : 0 ≤ f q := h q (by simp at hq ⊢; exact .inl hq)
      by_cases hc : f p < minOf f r.reverse
      · rw [if_pos (.inr hc)]
        refine ⟨⟨p, by simp, rfl⟩, fun x hx => ?_⟩
        rcases List.mem_append.1 hx with hx | hx
        · have := hle x hx; omega
        · simp at hx; subst hx; omega
      · rw [if_neg (by omega)]
        refine ⟨⟨q, by simp at hq ⊢; exact .inl hq, e⟩, fun x hx => ?_⟩
        rcases List.mem_append.1 hx with hx | hx
        · exact hle x hx
        · simp at hx; subst hx; omega
/-! ### The shortest tour -/
theorem set_sub_lt {set a : Nat} (h : set.testBit a = true) : set - 2 ^ a < set := by
  have := bit_le h
  have : 0 < 2 ^ a := Nat.two_pow_pos a
  omega
theorem bits_none {set : Nat} (h : set < 1024) (h0 : ∀ a, a < 10 → set.testBit a = false) : set = 0 := by
  refine pcT_zero h ?_
  unfold pcT
  rw [List.length_eq_zero_iff, List.filter_eq_nil_iff]
  intro a ha
  rw [h0 a (List.mem_range.1 ha)]; simp
theorem bit_ten {set a : Nat} (h : set < 1024) (hb : set.testBit a = true) : a < 10 := by
  have := bit_le hb
  exact (Nat.pow_lt_pow_iff_right (by omega : 1 < 2)).1 (by omega : 2 ^ a < 2 ^ 10)
theorem leg_at {far : List (List Int)} {home at_ set a : Nat} : legOf far home at_ set (a : Int) = at2 far at_ a + tour far home a (set - 2 ^ a) := by unfold legOf; rw [Int.toNat_natCast]
theorem els_ne {set : Nat} (h : set < 1024) (h0 : set ≠ 0) : els set ≠ [] := fun e => h0 (bits_none h fun a ha => by
  cases hb : set.testBit a with
  | false => rfl
  | true =>
    have : (a : Int) ∈ els set := mem_elTo.2 ⟨a, ha, hb, rfl⟩
    rw [e] at this; cases this)
theorem tour_le {n : Int} {far : List (List Int)} (hd : distOk n far) {home at_ set a : Nat} (h : set < 1024) (hb : set.testBit a = true) : tour far home at_ set ≤ at2 far at_ a + tour far home a (set - 2 ^ a) := by
  have h0 : set ≠ 0 := fun e => by rw [e] at hb; simp at hb
  rw [tour_pos h h0, ← leg_at (home := home)]
  exact (minOf_is (f := legOf far home at_ set) (els set) (els_ne h h0) fun p _ => (leg_bound hd home at_ set h p).1).2 _ (mem_elTo.2 ⟨a, bit_ten h hb, hb, rfl⟩)
theorem tour_ex {n : Int} {far : List (List Int)} (hd : distOk n far) {home at_ set : Nat} (h : set < 1024) (h0 : set ≠ 0) : ∃ a, a < 10 ∧ set.testBit a = true ∧ tour far home at_ set = at2 far at_ a + tour far home a (set - 2 ^ a) := by
  obtain ⟨⟨p, hp, e⟩, _⟩ := minOf_is (f := legOf far home at_ set) (els set) (els_ne h h0) fun p _ => (leg_bound hd home at_ set h p).1
  obtain ⟨a, ha, hb, rfl⟩ := mem_elTo.1 hp
  exact ⟨a, ha, hb, by rw [tour_pos h h0, ← e, leg_at]⟩
/-- All bits are clubs. -/
def bitsIn (set N : Nat) : Prop := ∀ b, set.testBit b = true → b < N
theorem bitsIn_take {set N a : Nat} (h : bitsIn set N) (hb : set.testBit a = true) : bitsIn (set - 2 ^ a) N := fun b h2 => by
  rw [take_bit hb] at h2
  exact h b (by cases h3 : set.testBit b with
    | true => rfl
    | false => rw [h3] at h2; simp at h2)
theorem sub_1024 {set : Nat} (h : set < 1024) (q : Nat) : set - q < 1024 := Nat.lt_of_le_of_lt (Nat.sub_le _ _) h
theorem tour_step {n : Int} {far : List (List Int)} (hm : isMetric n far) {home at_ q set : Nat} (h : set < 1024) (hs : bitsIn set far.length) (h1 : home < far.length) (h2 : at_ < far.length) (h3 : q < far.length) :
    tour far home at_ set ≤ at2 far at_ q + tour far home q set := by
  by_cases h0 : set = 0
  · subst h0
    rw [tour_zero, tour_zero]
    exact hm.2 _ h2 _ h3 _ h1
  · obtain ⟨a, ha, hb, e⟩ := tour_ex hm.1 (home := home) (at_ := q) h h0
    have k1 := tour_le hm.1 (home := home) (at_ := at_) h hb
    have k2 := hm.2 _ h2 _ h3 _ (hs a hb)
    omega
theorem tour_home {n : Int} {far : List (List Int)} (hm : isMetric n far) {home : Nat} (h1 : home < far.length) : ∀ (set at_ : Nat), set < 1024 → bitsIn set far.length → at_ < far.length → at2 far at_ home ≤ tour far home at_ set := by
  intro set
  induction set using Nat.strongRecOn with
  | ind set ih =>
    intro at_ h hs h2
    by_cases h0 : set = 0
    · subst h0; rw [tour_zero]; exact Int.le_refl _
    · obtain ⟨a, ha, hb, e⟩ := tour_ex hm.1 (home := home) (at_ := at_) h h0
      have k1 := ih _ (set_sub_lt hb) a (sub_1024 h _) (bitsIn_take hs hb) (hs a hb)
      have k2 := hm.2 _ h2 _ (hs a hb) _ h1
      omega
theorem tour_ge {n : Int} {far : List (List Int)} (hm : isMetric n far) {home x : Nat} (h1 : home < far.length) : ∀ (set at_ : Nat), set < 1024 → bitsIn set far.length → at_ < far.length → set.testBit x = true → at2 far at_ x + at2 far x home ≤ tour far home at_ set := by
  intro set
  induction set using Nat.strongRecOn with
  | ind set ih =>
    intro at_ h hs h2 hx
    have h0 : set ≠ 0 := fun e => by rw [e] at hx; simp at hx
    obtain ⟨a, ha, hb, e⟩ := tour_ex hm.1 (home := home) (at_ := at_) h h0
    by_cases hax : a = x
    · subst hax
      have k1 := tour_home hm h1 _ a (sub_1024 h _) (bitsIn_take hs hb) (hs a hb)
      omega
    · have k1 := ih _ (set_sub_lt hb) a (sub_1024 h _) (bitsIn_take hs hb) (hs a hb) (by rw [take_bit hb, hx]; simp [hax])
      have k2 := hm.2 _ h2 _ (hs a hb) _ (hs x hx)
      omega
/-- The length of a way through some places home. -/
def wlen (far : List (List Int)) (home : Nat) : Nat → List Int → Int
  | at_, [] => at2 far at_ home
  | at_, p :: ps => at2 far at_ p.toNat + wlen far home p.toNat ps
theorem tour_walk {n : Int} {far : List (List Int)} (hm : isMetric n far) {home : Nat} (h1 : home < far.length) : ∀ (ps : List Int) (at_ set : Nat), set < 1024 → bitsIn set far.length → at_ < far.length → (∀ p ∈ ps, 0 ≤ p ∧ p.toNat < far.length) → (∀ a, set.testBit a = true → (a : Int) ∈ ps) →
    tour far home at_ set ≤ wlen far home at_ ps := by
  intro ps
  induction ps with
  | nil =>
    intro at_ set h hs h2 _ hin
    have h0 : set = 0 := bits_none h fun a ha => by
      cases hb : set.testBit a with
      | false => rfl
      | true => cases hin a hb
    subst h0
    rw [tour_zero]; exact Int.le_refl _
  | cons p ps ih =>
    intro at_ set h hs h2 hp hin
    have hp0 := hp p (by simp)
    simp only [wlen]
    by_cases hb : set.testBit p.toNat = true
    · have k1 := tour_le hm.1 (home := home) (at_ := at_) h hb
      have k2 := ih p.toNat (set - 2 ^ p.toNat) (sub_1024 h _) (bitsIn_take hs hb) hp0.2 (fun q hq => hp q (by simp [hq])) (fun a ha => by
        rw [take_bit hb] at ha
        have h3 : set.testBit a = true := by cases h3 : set.testBit a with
          | true => rfl
          | false => rw [h3] at ha; simp at ha
        rw [h3] at ha
        rcases List.mem_cons.1 (hin a h3) with e | e
        · exfalso; rw [← e] at ha; simp at ha
        · exact e)
      omega
    · have k1 := tour_step hm (q := p.toNat) h hs h1 h2 hp0.2
      have k2 := ih p.toNat set h hs hp0.2 (fun q hq => hp q (by simp [hq])) (fun a ha => by
        rcases List.mem_cons.1 (hin a ha) with e | e
        · exfalso; rw [← e, Int.toNat_natCast] at hb; exact hb ha
        · exact e)
      omega
theorem wayTo_cons (far : List (List Int)) (p : Int) (ps : List Int) (k : Nat) : ∀ i, wayTo far (p :: ps) k (i + 1) = (at2 far k p.toNat + (wayTo far ps p.toNat i).1, (wayTo far ps p.toNat i).2) := by
  intro i
  induction i with
  | zero => simp [wayTo]
  | succ i ih =>
    rw [wayTo, ih]
    simp only [wayTo, List.getD_cons_succ, Int.add_assoc]
theorem wayTo_wlen (far : List (List Int)) (h : Nat) : ∀ (ps : List Int) (k : Nat), (wayTo far (ps ++ [(h : Int)]) k (ps.length + 1)).1 = wlen far h k ps := by
  intro ps
  induction ps with
  | nil => intro k; simp [wayTo, wlen]
  | cons p ps ih =>
    intro k
    rw [List.cons_append, List.length_cons, wayTo_cons, ih]
    rfl
/-! ### A line -/
def lineFar (l : List Int) : List (List Int) := l.map fun x => l.map fun y => max (x - y) (y - x)
theorem lineFar_len (l : List Int) : (lineFar l).length = l.length := by simp [lineFar]
theorem lineFar_at {l : List Int} {a b : Nat} (ha : a < l.length) (hb : b < l.length) : at2 (lineFar l) a b = max (l.getD a 0 - l.getD b 0) (l.getD b 0 - l.getD a 0) := by
  unfold at2 lineFar
  simp [List.getD, ha, hb]
theorem line_dist {l : List Int} {n : Int} (hc : clubs n) (hl : (l.length : Int) = n) (hb : ∀ x ∈ l, 0 ≤ x ∧ x ≤ 1000) : isMetric n (lineFar l) := by
  refine ⟨⟨hc, by rw [lineFar_len]; exact hl, fun r hr => ?_, fun a ha => ?_⟩, fun a ha b hb c hc => ?_⟩
  · unfold lineFar at hr
    obtain ⟨x, hx, rfl⟩ := List.mem_map.1 hr
    refine ⟨by rw [List.length_map]; exact hl, fun y hy => ?_⟩
    obtain ⟨z, hz, rfl⟩ := List.mem_map.1 hy
    have := hb x hx
    have := hb z hz
    omega
  · rw [lineFar_len] at ha
    refine ⟨by rw [lineFar_at ha ha]; omega, fun b hb => ?_⟩
    rw [lineFar_at ha (by omega), lineFar_at (by omega) ha]; omega
  · rw [lineFar_len] at ha hb hc
    rw [lineFar_at ha hc, lineFar_at ha hb, lineFar_at hb hc]
    omega
theorem line_min {l : List Int} (hb : ∀ x ∈ l, 0 ≤ x) {set : Nat} (h : set < 1024) (h0 : set ≠ 0) : ∃ a, a < 10 ∧ set.testBit a = true ∧ ∀ b, set.testBit b = true → l.getD a 0 ≤ l.getD b 0 := by
  obtain ⟨⟨p, hp, e⟩, h2⟩ := minOf_is (f := fun p => l.getD p.toNat 0) (els set) (els_ne h h0) fun p _ => by
    rw [List.getD_eq_getElem?_getD]
    cases hq : l[p.toNat]? with
    | none => simp
    | some x => exact hb x (List.mem_of_getElem? hq)
  obtain ⟨a, ha, hba, rfl⟩ := mem_elTo.1 hp
  refine ⟨a, ha, hba, fun b hb => ?_⟩
  have := h2 (b : Int) (mem_elTo.2 ⟨b, bit_ten h hb, hb, rfl⟩)
  rw [← e] at this
  simpa using this
theorem line_sweep {n : Int} {l : List Int} (hd : distOk n (lineFar l)) (hb : ∀ x ∈ l, 0 ≤ x) {home : Nat} {hi : Int} (h1 : home < l.length) (hh : l.getD home 0 ≤ hi) : ∀ (set at_ : Nat), set < 1024 → bitsIn set l.length → at_ < l.length → l.getD at_ 0 ≤ hi →
    (∀ b, set.testBit b = true → l.getD at_ 0 ≤ l.getD b 0 ∧ l.getD b 0 ≤ hi) → tour (lineFar l) home at_ set ≤ (hi - l.getD at_ 0) + (hi - l.getD home 0) := by
  intro set
  induction set using Nat.strongRecOn with
  | ind set ih =>
    intro at_ h hs h2 ht hin
    by_cases h0 : set = 0
    · subst h0
      rw [tour_zero, lineFar_at h2 h1]; omega
    · obtain ⟨a, ha, hba, hmin⟩ := line_min hb h h0
      have k0 := hin a hba
      have k1 := tour_le hd (home := home) (at_ := at_) h hba
      rw [lineFar_at h2 (hs a hba)] at k1
      have k2 := ih _ (set_sub_lt hba) a (sub_1024 h _) (bitsIn_take hs hba) (hs a hba) k0.2 (fun b hb2 => by
        rw [take_bit hba] at hb2
        have h3 : set.testBit b = true := by cases h3 : set.testBit b with
          | true => rfl
          | false => rw [h3] at hb2; simp at hb2
        exact ⟨hmin b h3, (hin b h3).2⟩)
      omega
/-- There and back, on both sides. -/
theorem line_tour {n : Int} {l : List Int} (hd : distOk n (lineFar l)) (hb : ∀ x ∈ l, 0 ≤ x) {home set : Nat} {high : Int} (h1 : home < l.length) (h : set < 1024) (hs : bitsIn set l.length) (h0 : 0 ≤ high) (hin : ∀ b, set.testBit b = true → at2 (lineFar l) home b ≤ high) :
    tour (lineFar l) home home set ≤ 4 * high := by
  by_cases e : set = 0
  · subst e
    rw [tour_zero, lineFar_at h1 h1]; omega
  · obtain ⟨a, ha, hba, hmin⟩ := line_min hb h e
    have hal := hs a hba
    have k0 := hin a hba
    have k1 := tour_le hd (home := home) (at_ := home) h hba
    rw [lineFar_at h1 hal] at k0 k1
    have k2 := line_sweep hd hb (home := home) (hi := l.getD home 0 + high) h1 (by omega) (set - 2 ^ a) a (sub_1024 h _) (bitsIn_take hs hba) hal (by omega) (fun b hb2 => by
      rw [take_bit hba] at hb2
      have h3 : set.testBit b = true := by cases h3 : set.testBit b with
        | true => rfl
        | false => rw [h3] at hb2; simp at hb2
      have := hin b h3
      rw [lineFar_at h1 (hs b h3)] at this
      have := hmin b h3
      omega)
    omega
/-! ### Stays and tours -/
theorem runs_count (p : List Int → Bool) (rows : List (List Int)) : ∀ k, k ≤ rows.length → (runs p rows k).1 ≤ ((rows.take k).countP p : Nat) ∧ (runs p rows k).2 ≤ ((rows.take k).countP p : Nat) := by
  intro k
  induction k with
  | zero => intro _; simp [runs]
  | succ k ih =>
    intro hk
    obtain ⟨i1, i2⟩ := ih (by omega)
    have hr : rows[k]? = some (rows.getD k []) := by rw [List.getD_eq_getElem?_getD, List.getElem?_eq_getElem (by omega)]; rfl
    rw [take_snoc_of hr, List.countP_append]
    simp only [runs]
    cases hp : p (rows.getD k []) with
    | true =>
      have e : List.countP p [rows.getD k []] = 1 := by rw [List.countP_cons, hp]; rfl
      rw [e]
      simp only [if_true]
      omega
    | false => simp only [Bool.false_eq_true, if_false]; omega
theorem side_le (k : Nat) (rows : List (List Int)) : rows.countP (homeAt k) + rows.countP (awayAt k) ≤ rows.length := by
  induction rows with
  | nil => simp
  | cons r rows ih =>
    rw [List.countP_cons, List.countP_cons, List.length_cons]
    have : ¬ (homeAt k r = true ∧ awayAt k r = true) := by
      unfold homeAt awayAt
      rw [decide_eq_true_eq, decide_eq_true_eq]; omega
    split <;> split <;> (first | omega | (rename_i h1 h2; exact absurd ⟨h1, h2⟩ this))
/-- How many of some places are not home. -/
def awP (k : Int) (l : List Int) : Nat := l.countP fun x => decide (x ≠ k)
def setP (k : Int) (l : List Int) : Nat := l.foldl (fun s x => if x ≠ k then s ||| 2 ^ x.toNat else s) 0
theorem setP_snoc (k : Int) (l : List Int) (x : Int) : setP k (l ++ [x]) = if x ≠ k then setP k l ||| 2 ^ x.toNat else setP k l := by unfold setP; rw [List.foldl_append]; rfl
theorem awP_snoc (k : Int) (l : List Int) (x : Int) : awP k (l ++ [x]) = awP k l + if x ≠ k then 1 else 0 := by
  unfold awP
  rw [List.countP_append]
  by_cases h : x = k <;> simp [h]
theorem setP_bit (k : Int) : ∀ (l : List Int), (∀ x ∈ l, 0 ≤ x) → ∀ b : Nat, (setP k l).testBit b = decide ((b : Int) ∈ l ∧ (b : Int) ≠ k) := by
  intro l
  rw [← List.reverse_reverse l]
  induction l.reverse with
  | nil => intro _ b; simp [setP]
  | cons p r ih =>
    intro h b
    rw [List.reverse_cons] at h ⊢
    have hp := h p (by simp)
    have i1 := ih (fun x hx => h x (by simp at hx ⊢; exact .inl hx)) b
    rw [setP_snoc]
    by_cases hk : p = k
    · rw [if_neg (fun h => h hk), i1, decide_eq_decide]
      simp only [List.mem_append, List.mem_singleton]
      constructor
      · rintro ⟨h1, h2⟩; exact ⟨.inl h1, h2⟩
      · rintro ⟨h1 | h1, h2⟩
        · exact ⟨h1, h2⟩
        · exact absurd (h1.trans hk) h2
    · rw [if_pos hk, Nat.testBit_or, i1, Nat.testBit_two_pow, Bool.eq_iff_iff]
      simp only [Bool.or_eq_true, decide_eq_true_eq, List.mem_append, List.mem_singleton]
      constructor
      · rintro (⟨h1, h2⟩ | h1)
        · exact ⟨.inl h1, h2⟩
        · have e : (b : Int) = p := by omega
          exact ⟨.inr e, by rw [e]; exact hk⟩
      · rintro ⟨h1 | h1, h2⟩
        · exact .inl ⟨h1, h2⟩
        · exact .inr (by omega)
theorem setP_lt (k : Int) {l : List Int} {m : Nat} (h : ∀ x ∈ l, 0 ≤ x ∧ x < m) : setP k l < 2 ^ m := by
  refine Nat.lt_pow_two_of_testBit _ fun i hi => ?_
  rw [setP_bit k l (fun x hx => (h x hx).1)]
  rw [decide_eq_false_iff_not]
  rintro ⟨h1, _⟩
  have := h _ h1
  omega
/-- The farthest of the first j clubs of a set. -/
def highTo (far : List (List Int)) (k set : Nat) : Nat → Int
  | 0 => 0
  | j + 1 => if set.testBit j = true then max (highTo far k set j) (at2 far k j) else highTo far k set j
theorem highTo_is (far : List (List Int)) (k set : Nat) : ∀ j, 0 ≤ highTo far k set j ∧ (∀ b, b < j → set.testBit b = true → at2 far k b ≤ highTo far k set j) ∧ (highTo far k set j = 0 ∨ ∃ b, b < j ∧ set.testBit b = true ∧ at2 far k b = highTo far k set j) := by
  intro j
  induction j with
  | zero => exact ⟨Int.le_refl _, fun b h => by omega, .inl rfl⟩
  | succ j ih =>
    obtain ⟨i1, i2, i3⟩ := ih
    simp only [highTo]
    by_cases hb : set.testBit j = true
    · rw [if_pos hb]
      refine ⟨by omega, fun b h h2 => ?_, ?_⟩
      · by_cases e : b = j
        · subst e; omega
        · have := i2 b (by omega) h2; omega
      · by_cases e : highTo far k set j < at2 far k j
        · exact .inr ⟨j, by omega, hb, by omega⟩
        · rcases i3 with i3 | ⟨b, h1, h2, h3⟩
          · exact .inl (by omega)
          · exact .inr ⟨b, by omega, h2, by omega⟩
    · rw [if_neg hb]
      refine ⟨i1, fun b h h2 => ?_, ?_⟩
      · by_cases e : b = j
        · subst e; exact absurd h2 hb
        · exact i2 b (by omega) h2
      · rcases i3 with i3 | ⟨b, h1, h2, h3⟩
        · exact .inl i3
        · exact .inr ⟨b, by omega, h2, h3⟩
/-- What the law asks of one club. -/
structure TravOk (n : Nat) (rows far : List (List Int)) (k : Nat) : Prop where
  low : 2 * highTo far k (setP (k : Int) (placesOf rows k)) n ≤ tripOf rows far k
  stay : 0 ≤ (runs (homeAt k) rows rows.length).1 ∧ 0 ≤ (runs (awayAt k) rows rows.length).1
  both : (runs (homeAt k) rows rows.length).1 + (runs (awayAt k) rows rows.length).1 ≤ rows.length
  aw : (runs (awayAt k) rows rows.length).1 ≤ (awP (k : Int) (placesOf rows k) : Int)
  l1 : 2 * highTo far k (setP (k : Int) (placesOf rows k)) n ≤ tour far k k (setP (k : Int) (placesOf rows k))
  l2 : tour far k k (setP (k : Int) (placesOf rows k)) ≤ tripOf rows far k
  l3 : tour far k k (setP (k : Int) (placesOf rows k)) ≤ 4 * highTo far k (setP (k : Int) (placesOf rows k)) n
theorem away_places {n : Int} {k : Nat} : ∀ (rows : List (List Int)), (∀ r ∈ rows, planRow n r) → (k : Int) < n → rows.countP (awayAt k) ≤ awP (k : Int) (placesOf rows k) := by
  intro rows
  induction rows with
  | nil => intro _ _; simp
  | cons r rows ih =>
    intro h hk
    have i1 := ih (fun r hr => h r (by simp [hr])) hk
    have hr := h r (by simp)
    have e : awP (k : Int) (placesOf (r :: rows) k) = awP (k : Int) (placesOf rows k) + if placeAt k r ≠ (k : Int) then 1 else 0 := by
      unfold awP placesOf
      rw [List.map_cons, List.countP_cons]
      by_cases h : placeAt k r = (k : Int) <;> simp [h]
    rw [List.countP_cons, e]
    by_cases ha : awayAt k r = true
    · have hp : placeAt k r ≠ (k : Int) := by
        unfold awayAt at ha
        rw [decide_eq_true_eq] at ha
        unfold placeAt
        rw [if_neg (by omega)]
        have hl := hr.1
        exact (hr.2.2 k (by omega)).1
      rw [if_pos ha, if_pos hp]; omega
    · rw [if_neg ha]; omega
theorem trav_ok {n : Nat} {rows : List (List Int)} {l : List Int} {k : Nat} (hp : planOk (n : Int) rows) (hl : l.length = n) (hb : ∀ x ∈ l, 0 ≤ x ∧ x ≤ 1000) (hk : k < n) : TravOk n rows (lineFar l) k := by
  have hm := line_dist (l := l) hp.1 (by rw [hl]) hb
  have hN := lineFar_len l
  have hn10 : n ≤ 10 := by have := hp.1.1; omega
  have hpl := placesOf_bound hp (k := k) (by omega)
  have hbit := setP_bit (k : Int) (placesOf rows k) (fun x hx => (hpl x hx).1)
  have hlt : setP (k : Int) (placesOf rows k) < 1024 := Nat.lt_of_lt_of_le (setP_lt (k : Int) hpl) (Nat.pow_le_pow_right (by omega) hn10 : 2 ^ n ≤ 2 ^ 10)
  have hin : bitsIn (setP (k : Int) (placesOf rows k)) (lineFar l).length := fun b h => by
    rw [hbit, decide_eq_true_eq] at h
    have := hpl _ h.1
    omega
  have htrip : tripOf rows (lineFar l) k = wlen (lineFar l) k k (placesOf rows k) := by
    unfold tripOf
    rw [← wayTo_wlen, placesOf_len]
  have hwalk := tour_walk hm (home := k) (by omega) (placesOf rows k) k _ hlt hin (by omega) (fun p hq => by have := hpl p hq; omega) (fun a ha => by rw [hbit, decide_eq_true_eq] at ha; exact ha.1)
  obtain ⟨g1, g2, g3⟩ := highTo_is (lineFar l) k (setP (k : Int) (placesOf rows k)) n
  have hlow : 2 * highTo (lineFar l) k (setP (k : Int) (placesOf rows k)) n ≤ tour (lineFar l) k k (setP (k : Int) (placesOf rows k)) := by
    rcases g3 with g3 | ⟨b, h1, h2, h3⟩
    · rw [g3]; have := tour_bound hm.1 k k _ hlt; omega
    · have := tour_ge hm (x := b) (home := k) (by omega) _ k hlt hin (by omega) h2
      rw [dist_sym hm.1 (a := b) (b := k) (by omega) (by omega)] at this
      omega
  have c1 := runs_count (homeAt k) rows rows.length (Nat.le_refl _)
  have c2 := runs_count (awayAt k) rows rows.length (Nat.le_refl _)
  rw [List.take_length] at c1 c2
  have c3 := side_le k rows
  have c4 := away_places rows hp.2.2 (k := k) (by omega)
  have b1 := runs_bound (homeAt k) rows rows.length
  have b2 := runs_bound (awayAt k) rows rows.length
  exact {
    low := by rw [htrip]; omega
    stay := ⟨b1.1, b2.1⟩
    both := by omega
    aw := by omega
    l1 := hlow
    l2 := by rw [htrip]; exact hwalk
    l3 := line_tour hm.1 (fun x hx => (hb x hx).1) (by omega) hlt (by rw [← hN]; exact hin) g1 (fun b h => g2 b (by have := hin b h; omega) h) }

end Go.Proofs.Ytbaljgdepicigaa
