/-
  Plain lemmas on the least bracket that a player wins: no program.
-/
import Derived.Test.YtbaljgdepicigaaBase
import Derived.Test.YtbaljgdepicigaaMathA
import Derived.Test.YtbaljgdepicigaaMathD
import Derived.Test.YtbaljgdepicigaaMathB
import Derived.Test.YtbaljgdepicigaaMathU
import Derived.Test.YtbaljgdepicigaaMathW
import Derived.Test.YtbaljgdepicigaaMathZ
import Derived.Test.YtbaljgdepicigaaMathY
import Derived.Test.YtbaljgdepicigaaMathG
import Derived.Test.YtbaljgdepicigaaMathQ
import Derived.Test.YtbaljgdepicigaaMathX
import Derived.Test.YtbaljgdepicigaaMathS
import Derived.Test.YtbaljgdepicigaaMathP
import Derived.Test.YtbaljgdepicigaaMathR
namespace Go.Proofs.Ytbaljgdepicigaa
set_option linter.unusedVariables false

/-! ### A bracket is won by the better one of its halves' winners -/
theorem nextR_append (xs : List Int) : ∀ (p q : List Int), p.length % 2 = 0 → nextR xs (p ++ q) = nextR xs p ++ nextR xs q
  | [], q, _ => rfl
  | [_], q, h => by simp at h
  | a :: b :: r, q, h => by
    simp only [List.cons_append, nextR]
    rw [nextR_append xs r q (by simp at h; omega)]
theorem winner_one (xs : List Int) (a : Int) : winner xs [a] = a := by rw [winner_end (by simp)]; rfl
theorem winner_append (xs : List Int) : ∀ (k : Nat) (p q : List Int), p.length = pw2 k → q.length = pw2 k → winner xs (p ++ q) = game xs (winner xs p) (winner xs q) := by
  intro k
  induction k with
  | zero =>
    intro p q hp hq
    obtain ⟨a, rfl⟩ := List.length_eq_one_iff.1 (show p.length = 1 from hp)
    obtain ⟨b, rfl⟩ := List.length_eq_one_iff.1 (show q.length = 1 from hq)
    rw [winner_one, winner_one, winner_step (by simp)]
    exact winner_one xs _
  | succ k ih =>
    intro p q hp hq
    have h1 := pw2_pos k
    have h2 := pw2_eq k
    rw [winner_step (br := p ++ q) (by rw [List.length_append]; omega), winner_step (br := p) (by omega), winner_step (br := q) (by omega), nextR_append xs p q (by omega)]
    exact ih _ _ (by rw [nextR_len]; omega) (by rw [nextR_len]; omega)

theorem winner_mem (xs : List Int) : ∀ {p : List Int}, 0 < p.length → winner xs p ∈ p := by
  have key : ∀ (n : Nat) (p : List Int), p.length ≤ n → 0 < p.length → winner xs p ∈ p := by
    intro n
    induction n with
    | zero => intro p h h0; omega
    | succ n ih =>
      intro p h h0
      by_cases h1 : 1 < p.length
      · rw [winner_step h1]
        have hl := nextR_len xs p
        exact nextR_mem xs p _ (ih _ (by omega) (by omega))
      · obtain ⟨a, rfl⟩ := List.length_eq_one_iff.1 (show p.length = 1 by omega)
        rw [winner_one]; simp
  intro p h
  exact key _ _ (Nat.le_refl _) h

/-! ### The least one of some lists -/
def lessL (a b : List Int) : List Int := if a = [] then b else if lx b a = true then b else a
def minL (l : List (List Int)) : List Int := l.foldl lessL []
theorem minL_snoc (l : List (List Int)) (c : List Int) : minL (l ++ [c]) = lessL (minL l) c := by simp [minL]
theorem lessL_spec {r y : List Int} (hr : r ≠ []) (hl : r.length = y.length) : (lessL r y = r ∨ lessL r y = y) ∧ lxe (lessL r y) r ∧ lxe (lessL r y) y := by
  unfold lessL
  rw [if_neg hr]
  split
  · rename_i h; exact ⟨.inr rfl, .inr h, .inl rfl⟩
  · rename_i h
    refine ⟨.inl rfl, .inl rfl, ?_⟩
    rcases lx_total hl with e | e | e
    · exact .inl e
    · exact .inr e
    · exact absurd e h
theorem foldL_spec {m : Nat} (hm : 0 < m) : ∀ (l : List (List Int)) (r : List Int), r.length = m → (∀ c ∈ l, c.length = m) → (l.foldl lessL r = r ∨ l.foldl lessL r ∈ l) ∧ lxe (l.foldl lessL r) r ∧ ∀ c ∈ l, lxe (l.foldl lessL r) c := by
  intro l
  induction l with
  | nil => intro r _ _; exact ⟨.inl rfl, .inl rfl, by simp⟩
  | cons y l ih =>
    intro r hr hl
    have hy := hl y (by simp)
    obtain ⟨h1, h2, h3⟩ := lessL_spec (r := r) (y := y) (by rintro rfl; simp at hr; omega) (by omega)
    obtain ⟨k1, k2, k3⟩ := ih (lessL r y) (by rcases h1 with e | e <;> rw [e] <;> assumption) (fun c hc => hl c (by simp [hc]))
    rw [List.foldl_cons]
    refine ⟨?_, lxe_trans k2 h2, fun c hc => ?_⟩
    · rcases k1 with e | e
      · rw [e]
        rcases h1 with e1 | e1
        · exact .inl e1
        · exact .inr (by rw [e1]; simp)
      · exact .inr (by simp [e])
    · rcases List.mem_cons.1 hc with rfl | hc
      · exact lxe_trans k2 h3
      · exact k3 c hc
theorem minL_spec {m : Nat} (hm : 0 < m) {l : List (List Int)} (hl : ∀ c ∈ l, c.length = m) (h0 : l ≠ []) : minL l ∈ l ∧ ∀ c ∈ l, lxe (minL l) c := by
  cases l with
  | nil => exact absurd rfl h0
  | cons x l =>
    have e : minL (x :: l) = l.foldl lessL x := by simp [minL, lessL]
    obtain ⟨h1, h2, h3⟩ := foldL_spec hm l x (hl x (by simp)) (fun c hc => hl c (by simp [hc]))
    rw [e]
    refine ⟨?_, fun c hc => ?_⟩
    · rcases h1 with h | h
      · rw [h]; simp
      · simp [h]
    · rcases List.mem_cons.1 hc with rfl | hc
      · exact h2
      · exact h3 c hc
theorem minL_len {m : Nat} {l : List (List Int)} (hl : ∀ c ∈ l, c.length = m) : (minL l).length ≤ m := by
  rcases Nat.eq_zero_or_pos m with rfl | hm
  · cases l with
    | nil => simp [minL]
    | cons x l =>
      have key : ∀ (l : List (List Int)) (r : List Int), r.length = 0 → (∀ c ∈ l, c.length = 0) → (l.foldl lessL r).length = 0 := by
        intro l
        induction l with
        | nil => intro r h _; exact h
        | cons y l ih => intro r h hl; exact ih _ (by unfold lessL; split; exact hl y (by simp); split; exact hl y (by simp); exact h) (fun c hc => hl c (by simp [hc]))
      exact Nat.le_of_eq (key (x :: l) [] rfl hl)
  · by_cases h0 : l = []
    · subst h0; simp [minL]
    · rw [hl _ (minL_spec hm hl h0).1]; exact Nat.le_refl _

/-! ### The least bracket -/
def canA (xs : List Int) (W : Nat → Nat) (L : Int → Nat → List Int) (a : Int) (set h : Nat) : List (List Int) :=
  if (W h).testBit a.toNat = true then (mems (W (set - h) &&& rowN xs a)).map fun b => L a h ++ L b (set - h) else []
def canB (xs : List Int) (W : Nat → Nat) (L : Int → Nat → List Int) (a : Int) (set h : Nat) : List (List Int) :=
  if (W (set - h)).testBit a.toNat = true then (mems (W h &&& rowN xs a)).map fun b => L b h ++ L a (set - h) else []
def cans (xs : List Int) (W : Nat → Nat) (L : Int → Nat → List Int) (a : Int) (set sz : Nat) : Nat → List (List Int)
  | 0 => []
  | h + 1 => if 1 ≤ h ∧ h &&& set = h ∧ pc h = sz then cans xs W L a set sz h ++ canA xs W L a set h ++ canB xs W L a set h else cans xs W L a set sz h
def least (xs : List Int) : Nat → Int → Nat → List Int
  | 0, a, _ => [a]
  | k + 1, a, set => minL (cans xs (win xs k) (least xs k) a set (pw2 k) set)
theorem cans_yes {xs : List Int} {W : Nat → Nat} {L : Int → Nat → List Int} {a : Int} {set sz h : Nat} (h1 : 1 ≤ h ∧ h &&& set = h ∧ pc h = sz) : cans xs W L a set sz (h + 1) = cans xs W L a set sz h ++ canA xs W L a set h ++ canB xs W L a set h := by
  simp only [cans]; rw [if_pos h1]
theorem cans_no {xs : List Int} {W : Nat → Nat} {L : Int → Nat → List Int} {a : Int} {set sz h : Nat} (h1 : ¬ (1 ≤ h ∧ h &&& set = h ∧ pc h = sz)) : cans xs W L a set sz (h + 1) = cans xs W L a set sz h := by
  simp only [cans]; rw [if_neg h1]
theorem mem_cans {xs : List Int} {W : Nat → Nat} {L : Int → Nat → List Int} {a : Int} {set sz : Nat} {c : List Int} : ∀ h, c ∈ cans xs W L a set sz h ↔ ∃ g, g < h ∧ (1 ≤ g ∧ g &&& set = g ∧ pc g = sz) ∧ (c ∈ canA xs W L a set g ∨ c ∈ canB xs W L a set g) := by
  intro h
  induction h with
  | zero => simp [cans]
  | succ h ih =>
    by_cases hv : 1 ≤ h ∧ h &&& set = h ∧ pc h = sz
    · rw [cans_yes hv, List.mem_append, List.mem_append, ih]
      constructor
      · rintro ((⟨g, h1, h2, h3⟩ | h3) | h3)
        · exact ⟨g, by omega, h2, h3⟩
        · exact ⟨h, by omega, hv, .inl h3⟩
        · exact ⟨h, by omega, hv, .inr h3⟩
      · rintro ⟨g, h1, h2, h3⟩
        by_cases e : g = h
        · subst e; rcases h3 with h3 | h3
          · exact .inl (.inr h3)
          · exact .inr h3
        · exact .inl (.inl ⟨g, by omega, h2, h3⟩)
    · rw [cans_no hv, ih]
      constructor
      · rintro ⟨g, h1, h2, h3⟩; exact ⟨g, by omega, h2, h3⟩
      · rintro ⟨g, h1, h2, h3⟩
        refine ⟨g, ?_, h2, h3⟩
        have : g ≠ h := by rintro rfl; exact hv h2
        omega
theorem mem_canA {xs : List Int} {W : Nat → Nat} {L : Int → Nat → List Int} {a : Int} {set h : Nat} {c : List Int} : c ∈ canA xs W L a set h ↔ (W h).testBit a.toNat = true ∧ ∃ b : Nat, b < 8 ∧ (W (set - h)).testBit b = true ∧ (rowN xs a).testBit b = true ∧ c = L a h ++ L (b : Int) (set - h) := by
  unfold canA
  split
  · rename_i h1
    rw [List.mem_map]
    constructor
    · rintro ⟨x, hx, rfl⟩
      obtain ⟨b, hb, hbt, rfl⟩ := mem_mems.1 hx
      rw [Nat.testBit_and, Bool.and_eq_true] at hbt
      exact ⟨h1, b, hb, hbt.1, hbt.2, rfl⟩
    · rintro ⟨_, b, hb, h2, h3, rfl⟩
      exact ⟨_, mem_mems.2 ⟨b, hb, by rw [Nat.testBit_and, h2, h3]; rfl, rfl⟩, rfl⟩
  · rename_i h1
    constructor
    · intro h; cases h
    · rintro ⟨h, _⟩; exact absurd h h1
theorem mem_canB {xs : List Int} {W : Nat → Nat} {L : Int → Nat → List Int} {a : Int} {set h : Nat} {c : List Int} : c ∈ canB xs W L a set h ↔ (W (set - h)).testBit a.toNat = true ∧ ∃ b : Nat, b < 8 ∧ (W h).testBit b = true ∧ (rowN xs a).testBit b = true ∧ c = L (b : Int) h ++ L a (set - h) := by
  unfold canB
  split
  · rename_i h1
    rw [List.mem_map]
    constructor
    · rintro ⟨x, hx, rfl⟩
      obtain ⟨b, hb, hbt, rfl⟩ := mem_mems.1 hx
      rw [Nat.testBit_and, Bool.and_eq_true] at hbt
      exact ⟨h1, b, hb, hbt.1, hbt.2, rfl⟩
    · rintro ⟨_, b, hb, h2, h3, rfl⟩
      exact ⟨_, mem_mems.2 ⟨b, hb, by rw [Nat.testBit_and, h2, h3]; rfl, rfl⟩, rfl⟩
  · rename_i h1
    constructor
    · intro h; cases h
    · rintro ⟨h, _⟩; exact absurd h h1
theorem not_bits : ∀ h : Nat, h < 256 → ∀ i : Nat, i < 8 → (255 - h).testBit i = !h.testBit i := by decide +kernel
theorem half_bits {set h : Nat} (hs : set < 256) (h2 : h &&& set = h) : h < 256 ∧ h ≤ set ∧ (∀ i, (set - h).testBit i = (set.testBit i && !h.testBit i)) ∧ pc (set - h) + pc h = pc set := by
  have h3 : h ≤ set := by rw [← h2]; exact Nat.and_le_right
  have h4 := pc_sub set hs h (by omega) h2
  refine ⟨by omega, h3, fun i => ?_, h4.1⟩
  rw [sub_bits set hs h (by omega) h2, Nat.testBit_and]
  rcases Nat.lt_or_ge i 8 with hi | hi
  · rw [not_bits h (by omega) i hi]
  · rw [Nat.testBit_lt_two_pow (x := set) (Nat.lt_of_lt_of_le (show set < 2 ^ 8 by omega) (Nat.pow_le_pow_right (by omega) hi))]; rfl
theorem bit_lt8 {v a : Nat} (hv : v < 256) (h : v.testBit a = true) : a < 8 := by
  rcases Nat.lt_or_ge a 8 with h1 | h1
  · exact h1
  · rw [Nat.testBit_lt_two_pow (Nat.lt_of_lt_of_le (show v < 2 ^ 8 by omega) (Nat.pow_le_pow_right (by omega) h1))] at h; cases h
theorem wTo_bits {xs : List Int} {W : Nat → Nat} {set sz : Nat} {i : Nat} : ∀ h, (wTo xs W set sz h).testBit i = true ↔ ∃ g, g < h ∧ (1 ≤ g ∧ g &&& set = g ∧ pc g = sz) ∧ ∃ x ∈ mems (W g), x.toNat = i ∧ ¬ rowN xs x &&& W (set - g) = 0 := by
  intro h
  induction h with
  | zero => simp [wTo]
  | succ h ih =>
    by_cases hv : 1 ≤ h ∧ h &&& set = h ∧ pc h = sz
    · rw [wTo_yes hv.1 hv.2.1 hv.2.2, addW_bits, Bool.or_eq_true, ih, List.any_eq_true]
      constructor
      · rintro (⟨g, h1, h2, h3⟩ | ⟨x, h1, h2⟩)
        · exact ⟨g, by omega, h2, h3⟩
        · exact ⟨h, by omega, hv, x, h1, by simpa using h2⟩
      · rintro ⟨g, h1, h2, x, h3, h4⟩
        by_cases e : g = h
        · subst e; exact .inr ⟨x, h3, by simpa using h4⟩
        · exact .inl ⟨g, by omega, h2, x, h3, h4⟩
    · rw [wTo_no hv, ih]
      constructor
      · rintro ⟨g, h1, h2, h3⟩; exact ⟨g, by omega, h2, h3⟩
      · rintro ⟨g, h1, h2, h3⟩
        refine ⟨g, ?_, h2, h3⟩
        have : g ≠ h := by rintro rfl; exact hv h2
        omega
theorem and_ne {u v : Nat} (hv : v < 256) : ¬ u &&& v = 0 ↔ ∃ b, b < 8 ∧ u.testBit b = true ∧ v.testBit b = true := by
  constructor
  · intro h
    obtain ⟨b, hb⟩ : ∃ b, (u &&& v).testBit b = true := by
      apply Classical.byContradiction
      intro hn
      apply h
      apply Nat.eq_of_testBit_eq
      intro i
      rw [Nat.zero_testBit]
      cases e : (u &&& v).testBit i with
      | false => rfl
      | true => exact absurd ⟨i, e⟩ hn
    rw [Nat.testBit_and, Bool.and_eq_true] at hb
    exact ⟨b, bit_lt8 hv hb.2, hb.1, hb.2⟩
  · rintro ⟨b, _, h1, h2⟩ h
    have := congrArg (fun z => z.testBit b) h
    simp only [Nat.testBit_and, h1, h2, Nat.zero_testBit] at this
    cases this
def hal (k set g : Nat) : Prop := 1 ≤ g ∧ g &&& set = g ∧ pc g = pw2 k
theorem hal_lt {k set g : Nat} (hs : set < 256) (hp : pc set = pw2 (k + 1)) (h : hal k set g) : g < set ∧ hal k set (set - g) ∧ set - (set - g) = g := by
  obtain ⟨h1, h2, h3⟩ := h
  have hb := half_bits hs h2
  have hk := pw2_pos k
  have hk2 := pw2_eq k
  have h0 : 1 ≤ set - g := by
    rcases Nat.eq_zero_or_pos (set - g) with e | e
    · have h5 := hb.2.2.2; rw [e, show pc 0 = 0 from rfl] at h5; omega
    · exact e
  refine ⟨by omega, ⟨h0, ?_, by omega⟩, by omega⟩
  apply Nat.eq_of_testBit_eq
  intro i
  rw [Nat.testBit_and, hb.2.2.1]
  cases set.testBit i <;> simp
theorem win_bit {xs : List Int} {k set a : Nat} (hs : set < 256) (hp : pc set = pw2 (k + 1)) : (win xs (k + 1) set).testBit a = true ↔ ∃ g, hal k set g ∧ (win xs k g).testBit a = true ∧ ∃ b, b < 8 ∧ (rowN xs a).testBit b = true ∧ (win xs k (set - g)).testBit b = true := by
  show (wTo xs (win xs k) set (pw2 k) set).testBit a = true ↔ _
  rw [wTo_bits]
  constructor
  · rintro ⟨g, h1, h2, x, h3, h4, h5⟩
    have hh := hal_lt hs hp (show hal k set g from h2)
    obtain ⟨b, hb, hbt, rfl⟩ := mem_mems.1 h3
    obtain rfl : b = a := by simpa using h4
    exact ⟨g, h2, hbt, (and_ne (win_lt xs (by omega) hh.2.1.2.2)).1 h5⟩
  · rintro ⟨g, h2, h3, h4⟩
    have hh := hal_lt hs hp h2
    exact ⟨g, hh.1, h2, (a : Int), mem_mems.2 ⟨a, bit_lt8 (win_lt xs (by omega) h2.2.2) h3, h3, rfl⟩, by simp, (and_ne (win_lt xs (by omega) hh.2.1.2.2)).2 h4⟩
/-- An order of the players of a set. -/
def Arr (k set : Nat) (p : List Int) : Prop := p.length = pw2 k ∧ p.Nodup ∧ ∀ x ∈ p, x ∈ mems set
theorem mems_disj {set g : Nat} (hs : set < 256) (h2 : g &&& set = g) {x : Int} (h : x ∈ mems g) : ¬ x ∈ mems (set - g) := by
  intro h'
  obtain ⟨b, hb, hbt, rfl⟩ := mem_mems.1 h
  obtain ⟨c, hc, hct, e⟩ := mem_mems.1 h'
  obtain rfl : b = c := by omega
  rw [(half_bits hs h2).2.2.1, hbt] at hct
  simp at hct
theorem mems_sub {set g : Nat} (h2 : g &&& set = g) {x : Int} (h : x ∈ mems g) : x ∈ mems set := by
  obtain ⟨b, hb, hbt, rfl⟩ := mem_mems.1 h
  exact mem_mems.2 ⟨b, hb, subB_and h2 b hbt, rfl⟩
theorem arr_join {k set g : Nat} (hs : set < 256) (hp : pc set = pw2 (k + 1)) (h : hal k set g) {p q : List Int} (hp1 : Arr k g p) (hq : Arr k (set - g) q) : Arr (k + 1) set (p ++ q) := by
  have hh := hal_lt hs hp h
  refine ⟨by rw [List.length_append, hp1.1, hq.1, pw2_eq]; omega, ?_, fun x hx => ?_⟩
  · rw [List.nodup_append]
    refine ⟨hp1.2.1, hq.2.1, fun x hx y hy e => ?_⟩
    subst e
    exact mems_disj hs h.2.1 (hp1.2.2 x hx) (hq.2.2 x hy)
  · rcases List.mem_append.1 hx with hx | hx
    · exact mems_sub h.2.1 (hp1.2.2 x hx)
    · exact mems_sub hh.2.1.2.1 (hq.2.2 x hx)
theorem mems_bd {m : Nat} {x : Int} (h : x ∈ mems m) : 0 ≤ x ∧ x < 8 := by obtain ⟨b, hb, _, rfl⟩ := mem_mems.1 h; omega
theorem arr_split {k set : Nat} (hs : set < 256) (hp : pc set = pw2 (k + 1)) {p : List Int} (h : Arr (k + 1) set p) : ∃ g p1 p2, hal k set g ∧ p = p1 ++ p2 ∧ Arr k g p1 ∧ Arr k (set - g) p2 := by
  obtain ⟨hl, hn, hm⟩ := h
  have hk := pw2_pos k
  have hk2 := pw2_eq k
  obtain ⟨p1, p2, rfl, hl1⟩ : ∃ p1 p2, p = p1 ++ p2 ∧ p1.length = pw2 k := ⟨p.take (pw2 k), p.drop (pw2 k), (List.take_append_drop _ _).symm, by rw [List.length_take]; omega⟩
  rw [List.length_append] at hl
  rw [List.nodup_append] at hn
  have hb1 : ∀ x ∈ p1, 0 ≤ x ∧ x < 8 := fun x hx => mems_bd (hm x (by simp [hx]))
  obtain ⟨ho, hob⟩ := orN_bits p1 hb1
  have hpc := (orN_pc p1 hb1).2.2 hn.1
  have hg : ∀ i, (orN p1).testBit i = true → set.testBit i = true := fun i hi => by
    have h8 := bit_lt8 ho hi
    rw [hob i h8] at hi
    obtain ⟨b, _, hbt, e⟩ := mem_mems.1 (hm (i : Int) (by simp; exact .inl (by simpa using hi)))
    obtain rfl : i = b := by omega
    exact hbt
  have hand : orN p1 &&& set = orN p1 := by
    apply Nat.eq_of_testBit_eq
    intro i
    rw [Nat.testBit_and]
    cases e : (orN p1).testBit i with
    | false => rfl
    | true => rw [hg i e]; rfl
  have hhal : hal k set (orN p1) := by
    refine ⟨?_, hand, by omega⟩
    rcases Nat.eq_zero_or_pos (orN p1) with e | e
    · rw [e, show pc 0 = 0 from rfl] at hpc; omega
    · exact e
  refine ⟨orN p1, p1, p2, hhal, rfl, ⟨hl1, hn.1, fun x hx => ?_⟩, ⟨by omega, hn.2.1, fun x hx => ?_⟩⟩
  · have := hb1 x hx
    refine mem_mems.2 ⟨x.toNat, by omega, ?_, by omega⟩
    rw [hob _ (by omega), Int.toNat_of_nonneg this.1]
    simpa using hx
  · obtain ⟨b, hb, hbt, rfl⟩ := mem_mems.1 (hm x (by simp [hx]))
    refine mem_mems.2 ⟨b, hb, ?_, rfl⟩
    rw [(half_bits hs hand).2.2.1, hbt, hob b hb]
    have : ¬ (b : Int) ∈ p1 := fun h1 => hn.2.2 _ h1 _ hx rfl
    simpa using this
theorem bit_ltn {v a n : Nat} (hv : v < 2 ^ n) (h : v.testBit a = true) : a < n := by
  rcases Nat.lt_or_ge a n with h1 | h1
  · exact h1
  · rw [Nat.testBit_lt_two_pow (Nat.lt_of_lt_of_le hv (Nat.pow_le_pow_right (by omega) h1))] at h; cases h
theorem row_bts {s : Int} {xs : List Int} (ht : tourOk s xs) {a b : Nat} (ha : a < xs.length) : (rowN xs (a : Int)).testBit b = true ↔ bts xs a b := by
  obtain ⟨m, h1, h2⟩ := row_nat ht ha
  rw [bts_nat h1]
  have : rowN xs (a : Int) = m := by simp [rowN, List.getD, h1]
  rw [this]
/-- The least bracket of a set that a player wins. -/
theorem least_ok {s : Int} {xs : List Int} (ht : tourOk s xs) : ∀ (k set : Nat), set < 2 ^ xs.length → pc set = pw2 k → ∀ a : Nat,
    ((win xs k set).testBit a = true → Arr k set (least xs k (a : Int) set) ∧ winner xs (least xs k (a : Int) set) = (a : Int)) ∧
    ∀ p, Arr k set p → winner xs p = (a : Int) → (win xs k set).testBit a = true ∧ lxe (least xs k (a : Int) set) p := by
  have hn8 := tourOk_size ht
  have h256 : 2 ^ xs.length ≤ 2 ^ 8 := Nat.pow_le_pow_right (by omega) hn8.2.1
  intro k
  induction k with
  | zero =>
    intro set hs hp a
    refine ⟨fun h => ?_, fun p h1 h2 => ?_⟩
    · replace h : set.testBit a = true := h
      exact ⟨⟨rfl, by simp [least], fun x hx => by simp [least] at hx; exact mem_mems.2 ⟨a, bit_lt8 (v := set) (by omega) h, h, hx⟩⟩, winner_one _ _⟩
    · obtain ⟨x, rfl⟩ := List.length_eq_one_iff.1 (show p.length = 1 from h1.1)
      rw [winner_one] at h2
      subst h2
      obtain ⟨b, hb, hbt, e⟩ := mem_mems.1 (h1.2.2 (a : Int) (by simp))
      obtain rfl : a = b := by omega
      exact ⟨hbt, .inl rfl⟩
  | succ k ih =>
    intro set hs hp a
    have hs2 : set < 256 := by omega
    have hwl : ∀ g, hal k set g → g < 2 ^ xs.length := fun g hg => by have := (hal_lt hs2 hp hg).1; omega
    have hwb : ∀ g, hal k set g → ∀ b, (win xs k g).testBit b = true → b < xs.length := fun g hg b hb =>
      bit_ltn (hwl g hg) (win_sub xs k g (by have := hwl g hg; omega) hg.2.2 b hb)
    -- every candidate is won by a
    have hc1 : ∀ c ∈ cans xs (win xs k) (least xs k) (a : Int) set (pw2 k) set, Arr (k + 1) set c ∧ winner xs c = (a : Int) ∧ (win xs (k + 1) set).testBit a = true := by
      intro c hc
      obtain ⟨g, hg, hv, h3⟩ := (mem_cans _).1 hc
      have hh := hal_lt hs2 hp hv
      rcases h3 with h3 | h3
      · obtain ⟨h4, b, hb, h5, h6, rfl⟩ := mem_canA.1 h3
        rw [Int.toNat_natCast] at h4
        have i1 := (ih g (hwl g hv) hv.2.2 a).1 h4
        have i2 := (ih (set - g) (hwl _ hh.2.1) hh.2.1.2.2 b).1 h5
        have ha := hwb g hv a h4
        have hbn := hwb _ hh.2.1 b h5
        refine ⟨arr_join hs2 hp hv i1.1 i2.1, ?_, (win_bit hs2 hp).2 ⟨g, hv, h4, b, hb, h6, h5⟩⟩
        rw [winner_append xs k _ _ i1.1.1 i2.1.1, i1.2, i2.2]
        have hab := (row_bts ht ha).1 h6
        have hne : a ≠ b := by rintro rfl; exact bts_self ht ha hab
        unfold game
        rw [if_neg]
        rintro (h | ⟨_, h⟩)
        · omega
        · rw [Int.toNat_natCast, Int.toNat_natCast] at h
          exact (bts_anti ht ha hbn hne).1 hab h
      · obtain ⟨h4, b, hb, h5, h6, rfl⟩ := mem_canB.1 h3
        rw [Int.toNat_natCast] at h4
        have i1 := (ih g (hwl g hv) hv.2.2 b).1 h5
        have i2 := (ih (set - g) (hwl _ hh.2.1) hh.2.1.2.2 a).1 h4
        have ha := hwb _ hh.2.1 a h4
        refine ⟨arr_join hs2 hp hv i1.1 i2.1, ?_, (win_bit hs2 hp).2 ⟨set - g, hh.2.1, h4, b, hb, h6, by rw [hh.2.2]; exact h5⟩⟩
        rw [winner_append xs k _ _ i1.1.1 i2.1.1, i1.2, i2.2]
        have hab := (row_bts ht ha).1 h6
        unfold game
        rw [if_pos]
        exact .inr ⟨by omega, by rw [Int.toNat_natCast, Int.toNat_natCast]; exact hab⟩
    -- every bracket that a wins is no less than a candidate
    have hc2 : ∀ p, Arr (k + 1) set p → winner xs p = (a : Int) → ∃ c ∈ cans xs (win xs k) (least xs k) (a : Int) set (pw2 k) set, lxe c p := by
      intro p h1 h2
      obtain ⟨g, p1, p2, hv, rfl, a1, a2⟩ := arr_split hs2 hp h1
      have hh := hal_lt hs2 hp hv
      have hx : ∃ x : Nat, winner xs p1 = (x : Int) := by
        have : winner xs p1 ∈ p1 := winner_mem xs (by have := a1.1; have := pw2_pos k; omega)
        obtain ⟨b, _, _, e⟩ := mem_mems.1 (a1.2.2 _ this)
        exact ⟨b, e⟩
      have hy : ∃ x : Nat, winner xs p2 = (x : Int) := by
        have : winner xs p2 ∈ p2 := winner_mem xs (by have := a2.1; have := pw2_pos k; omega)
        obtain ⟨b, _, _, e⟩ := mem_mems.1 (a2.2.2 _ this)
        exact ⟨b, e⟩
      obtain ⟨x, hx⟩ := hx
      obtain ⟨y, hy⟩ := hy
      obtain ⟨b1, l1⟩ := (ih g (hwl g hv) hv.2.2 x).2 p1 a1 hx
      obtain ⟨b2, l2⟩ := (ih (set - g) (hwl _ hh.2.1) hh.2.1.2.2 y).2 p2 a2 hy
      have i1 := (ih g (hwl g hv) hv.2.2 x).1 b1
      have hxn := hwb g hv x b1
      have hyn := hwb _ hh.2.1 y b2
      have hx8 : x < 8 := by omega
      have hy8 : y < 8 := by omega
      have hne : x ≠ y := by
        rintro rfl
        have m1 := win_sub xs k g (by have := hwl g hv; omega) hv.2.2 x b1
        have m2 := win_sub xs k (set - g) (by omega) hh.2.1.2.2 x b2
        rw [(half_bits hs2 hv.2.1).2.2.1, m1] at m2
        simp at m2
      refine ⟨least xs k (x : Int) g ++ least xs k (y : Int) (set - g), ?_, lxe_append (by rw [i1.1.1, a1.1]) l1 l2⟩
      rw [mem_cans]
      refine ⟨g, hh.1, hv, ?_⟩
      rw [winner_append xs k _ _ a1.1 a2.1, hx, hy] at h2
      unfold game at h2
      by_cases hb : bts xs y x
      · rw [if_pos (.inr ⟨by omega, by simpa using hb⟩)] at h2
        obtain rfl : y = a := by omega
        exact .inr (mem_canB.2 ⟨by simpa using b2, x, hx8, b1, (row_bts ht hyn).2 hb, rfl⟩)
      · rw [if_neg (by rintro (h | ⟨_, h⟩); omega; exact hb (by simpa using h))] at h2
        obtain rfl : x = a := by omega
        exact .inl (mem_canA.2 ⟨by simpa using b1, y, hy8, b2, (row_bts ht hxn).2 ((bts_anti ht hxn hyn hne).2 hb), rfl⟩)
    have hlen : ∀ c ∈ cans xs (win xs k) (least xs k) (a : Int) set (pw2 k) set, c.length = pw2 (k + 1) := fun c hc => (hc1 c hc).1.1
    refine ⟨fun h => ?_, fun p h1 h2 => ?_⟩
    · obtain ⟨g, hv, h4, b, hb, h6, h5⟩ := (win_bit hs2 hp).1 h
      have hne : cans xs (win xs k) (least xs k) (a : Int) set (pw2 k) set ≠ [] :=
        List.ne_nil_of_mem ((mem_cans _).2 ⟨g, (hal_lt hs2 hp hv).1, hv, .inl (mem_canA.2 ⟨by simpa using h4, b, hb, h5, h6, rfl⟩)⟩)
      have hm := hc1 _ (minL_spec (pw2_pos _) hlen hne).1
      exact ⟨hm.1, hm.2.1⟩
    · obtain ⟨c, hc, hcp⟩ := hc2 p h1 h2
      exact ⟨(hc1 c hc).2.2, lxe_trans ((minL_spec (pw2_pos _) hlen (List.ne_nil_of_mem hc)).2 c hc) hcp⟩
theorem least_len (xs : List Int) : ∀ (k : Nat) (a : Int) (set : Nat), (least xs k a set).length ≤ pw2 k := by
  intro k
  induction k with
  | zero => intro a set; exact Nat.le_refl _
  | succ k ih =>
    intro a set
    show (minL _).length ≤ _
    have hle : ∀ c ∈ cans xs (win xs k) (least xs k) a set (pw2 k) set, c.length ≤ pw2 (k + 1) := fun c hc => by
      obtain ⟨g, _, _, h3⟩ := (mem_cans _).1 hc
      rcases h3 with h3 | h3
      · obtain ⟨_, b, _, _, _, rfl⟩ := mem_canA.1 h3
        have i1 := ih a g; have i2 := ih (b : Int) (set - g)
        rw [List.length_append, pw2_eq]; omega
      · obtain ⟨_, b, _, _, _, rfl⟩ := mem_canB.1 h3
        have i1 := ih (b : Int) g; have i2 := ih a (set - g)
        rw [List.length_append, pw2_eq]; omega
    have key : ∀ (l : List (List Int)) (r : List Int), r.length ≤ pw2 (k + 1) → (∀ c ∈ l, c.length ≤ pw2 (k + 1)) → (l.foldl lessL r).length ≤ pw2 (k + 1) := by
      intro l
      induction l with
      | nil => intro r h _; exact h
      | cons y l ihl =>
        intro r h hl
        refine ihl _ ?_ (fun c hc => hl c (by simp [hc]))
        have := hl y (by simp)
        unfold lessL
        split
        · exact this
        · split
          · exact this
          · exact h
    exact key _ [] (by simp) hle

/-! ### The law's value -/
theorem mems_fullU {s : Int} {x : Int} (h0 : 0 ≤ s) (h8 : s ≤ 8) : x ∈ mems (fullS s) ↔ x ∈ upto s.toNat := by
  rw [mem_mems, upto_mem]
  unfold fullS
  simp only [Nat.testBit_two_pow_sub_one, decide_eq_true_eq]
  constructor
  · rintro ⟨a, h1, h2, rfl⟩; omega
  · intro h; exact ⟨x.toNat, by omega, by omega, by omega⟩
/-- The first bracket, in lexicographic order, that a player wins. -/
def firstB (xs : List Int) (a : Int) : Option (List Int) := (extL (upto xs.length) xs.length []).find? fun p => decide (winner xs p = a)
theorem arr_full {s : Int} {xs : List Int} (hf : fixedOk s xs) {p : List Int} : p ∈ extL (upto xs.length) xs.length [] ↔ Arr (lg s) (fullS s) p := by
  have h1 := tourOk_size hf.1
  have h2 := brk_pw2 hf.2
  have e : s.toNat = xs.length := by omega
  rw [mem_extL]
  constructor
  · rintro ⟨q, rfl, h3, h4, h5⟩
    refine ⟨by omega, by simpa using h5, fun x hx => ?_⟩
    rw [mems_fullU (by omega) (by omega), e]
    exact (h4 x (by simpa using hx)).1
  · rintro ⟨h3, h4, h5⟩
    refine ⟨p, rfl, by omega, fun x hx => ⟨?_, by simp⟩, h4⟩
    have := h5 x hx
    rwa [mems_fullU (by omega) (by omega), e] at this
theorem upto_sorted (n : Nat) : (upto n).Pairwise (· < ·) := by
  unfold upto
  rw [List.pairwise_map]
  exact (List.pairwise_lt_range (n := n)).imp fun h => by omega
theorem first_least {s : Int} {xs : List Int} {a : Int} (hf : fixedOk s xs) (ha : 0 ≤ a ∧ a ≤ s - 1) :
    firstB xs a = if inSet (possW s xs) a then some (least xs (lg s) a (fullS s)) else none := by
  have h1 := tourOk_size hf.1
  have h2 := fullS_ok (s := s) (by omega) (by omega)
  have h3 := brk_pw2 hf.2
  have e : s.toNat = xs.length := by omega
  have hlo := least_ok hf.1 (lg s) (fullS s) (by rw [← e]; exact h2.2.2) (by rw [h2.2.1]; omega) a.toNat
  rw [Int.toNat_of_nonneg ha.1] at hlo
  have hin : inSet (possW s xs) a ↔ (win xs (lg s) (fullS s)).testBit a.toNat = true := by unfold inSet possW; rw [if_pos hf, Int.toNat_natCast]
  cases hfb : firstB xs a with
  | none =>
    rw [if_neg]
    intro hw
    have hl := hlo.1 (hin.1 hw)
    have := List.find?_eq_none.1 hfb _ ((arr_full hf).2 hl.1)
    simp [hl.2] at this
  | some p =>
    obtain ⟨k1, k2, k3⟩ := find_least (sorted_extL (upto_sorted _) _ _) hfb
    have hw : winner xs p = a := by simpa using k1
    have hp := hlo.2 p ((arr_full hf).1 k2) hw
    rw [if_pos (hin.2 hp.1)]
    have hl := hlo.1 hp.1
    congr 1
    exact lxe_antisymm (k3 _ ((arr_full hf).2 hl.1) (by simpa using hl.2)) hp.2

end Go.Proofs.Ytbaljgdepicigaa
