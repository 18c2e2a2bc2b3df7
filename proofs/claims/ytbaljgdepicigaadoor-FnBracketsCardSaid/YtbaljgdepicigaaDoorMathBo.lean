/-
  Plain lemmas on orders of players: who reaches whom, parts, and the least number of reversals. No program.
-/
import Derived.Test.YtbaljgdepicigaaDoorBase
import Derived.Test.YtbaljgdepicigaaDoorMgA
namespace Go.Proofs.YtbaljgdepicigaaDoor
set_option linter.unusedVariables false

theorem bts_row {s : Int} {xs : List Int} (ht : tourOk s xs) {a b : Nat} (ha : a < xs.length) : bts xs a b ↔ (rowN xs (a : Int)).testBit b = true := by
  have hr := tourOk_row ht _ (List.getElem_mem ha)
  have e : xs.getD a 0 = (rowN xs (a : Int) : Int) := by
    unfold rowN
    rw [Int.toNat_natCast, List.getD_eq_getElem?_getD, List.getElem?_eq_getElem ha]
    simp only [Option.getD_some]
    omega
  unfold bts
  rw [e, bitAt_iff]
theorem row_lt {n : Nat} {xs : List Int} (ht : tourOk (n : Int) xs) {a : Nat} (ha : a < n) : rowN xs (a : Int) < 2 ^ n := by
  have hl : xs.length = n := by have := tourOk_size ht; omega
  have hx : xs[a]? = some (xs[a]'(by omega)) := List.getElem?_eq_getElem _
  have hr := ht.2.2.1 _ (List.mem_of_getElem? hx)
  generalize xs[a]'(by omega) = y at hx hr
  rw [hl] at hr
  unfold rowN
  rw [Int.toNat_natCast, List.getD_eq_getElem?_getD, hx]
  simp only [Option.getD_some]
  have h2 : ((2 ^ n : Nat) : Int) = (2 : Int) ^ n := by simp
  omega
theorem row_bit {n : Nat} {xs : List Int} (ht : tourOk (n : Int) xs) {a b : Nat} (ha : a < n) (h : (rowN xs (a : Int)).testBit b = true) : b < n := by
  rcases Nat.lt_or_ge b n with h1 | h1
  · exact h1
  · rw [Nat.testBit_lt_two_pow (Nat.lt_of_lt_of_le (row_lt ht ha) (Nat.pow_le_pow_right (by omega) h1))] at h; cases h
/-- Everybody beats who comes later. -/
def monoT (n : Nat) (xs : List Int) : Prop := ∀ a b, a < b → b < n → bts xs a b
/-- An order without reversals. -/
def noRev (n : Nat) (xs : List Int) (o : List Int) : Prop := isPerm n o ∧ ∀ i k, i < k → k < n → bts xs (o.getD i 0).toNat (o.getD k 0).toNat
/-! ### Reach -/
def ClosedT (n : Nat) (xs : List Int) (C : Nat) : Prop := ∀ b c, b < n → C.testBit b = true → bts xs b c → C.testBit c = true
structure IsReach (n : Nat) (xs : List Int) (a R : Nat) : Prop where
  lt : R < 2 ^ n
  mem : R.testBit a = true
  closed : ClosedT n xs R
  least : ∀ C, C.testBit a = true → ClosedT n xs C → ∀ b, R.testBit b = true → C.testBit b = true
/-- What a set and some rows hold together. -/
def orR (xs : List Int) (S : Nat) (l : List Int) : Nat := l.foldl (fun o b => o ||| rowN xs b) S
theorem orR_snoc (xs : List Int) (S : Nat) {l : List Int} {k : Nat} {b : Int} (h : l[k]? = some b) : orR xs S (l.take (k + 1)) = orR xs S (l.take k) ||| rowN xs b := by
  rw [take_snoc_of h]; unfold orR; rw [List.foldl_append]; rfl
theorem orR_bit (xs : List Int) (c : Nat) : ∀ (l : List Int) (S : Nat), (orR xs S l).testBit c = true ↔ S.testBit c = true ∨ ∃ b ∈ l, (rowN xs b).testBit c = true := by
  intro l
  induction l with
  | nil => intro S; simp [orR]
  | cons b r ih =>
    intro S
    show (orR xs (S ||| rowN xs b) r).testBit c = true ↔ _
    rw [ih, Nat.testBit_or, Bool.or_eq_true]
    constructor
    · rintro ((h | h) | ⟨d, hd, h⟩)
      · exact .inl h
      · exact .inr ⟨b, by simp, h⟩
      · exact .inr ⟨d, by simp [hd], h⟩
    · rintro (h | ⟨d, hd, h⟩)
      · exact .inl (.inl h)
      · rcases List.mem_cons.1 hd with e | hd
        · subst e; exact .inl (.inr h)
        · exact .inr ⟨d, hd, h⟩
theorem orR_ge (xs : List Int) : ∀ (l : List Int) (S : Nat), S ≤ orR xs S l := by
  intro l
  induction l with
  | nil => intro S; exact Nat.le_refl _
  | cons b r ih => intro S; exact Nat.le_trans Nat.left_le_or (ih (S ||| rowN xs b))
theorem lt_of_bits {n m : Nat} (h : ∀ b, m.testBit b = true → b < n) : m < 2 ^ n := Nat.lt_pow_two_of_testBit m fun i hi => by
  cases e : m.testBit i with
  | false => rfl
  | true => have := h i e; omega
theorem bit_in {n m b : Nat} (h : m < 2 ^ n) (hb : m.testBit b = true) : b < n := by
  rcases Nat.lt_or_ge b n with h1 | h1
  · exact h1
  · rw [Nat.testBit_lt_two_pow (Nat.lt_of_lt_of_le h (Nat.pow_le_pow_right (by omega) h1))] at hb; cases hb
theorem pow8 {n : Nat} (h : n ≤ 8) : 2 ^ n ≤ 256 := Nat.pow_le_pow_right (n := 2) (j := 8) (by omega) h
theorem orR_lt {n : Nat} {xs : List Int} (ht : tourOk (n : Int) xs) {S : Nat} (hS : S < 2 ^ n) (j : Nat) : orR xs S ((mems S).take j) < 2 ^ n := lt_of_bits fun b hb => by
  rw [orR_bit] at hb
  rcases hb with hb | ⟨d, hd, hb⟩
  · exact bit_in hS hb
  · obtain ⟨a, ha, h1, rfl⟩ := mem_mems.1 (List.mem_of_mem_take hd)
    exact row_bit ht (bit_in hS h1) hb
/-- One more step of who is reached. -/
theorem reach_step {n : Nat} {xs : List Int} {a S : Nat} (ht : tourOk (n : Int) xs) (hS : S < 2 ^ n) (hn : n ≤ 8) (ha : S.testBit a = true) (hl : ∀ C, C.testBit a = true → ClosedT n xs C → ∀ b, S.testBit b = true → C.testBit b = true) :
    (orR xs S (mems S) = S → IsReach n xs a S) ∧ (orR xs S (mems S) ≠ S → S < orR xs S (mems S) ∧ (orR xs S (mems S)).testBit a = true ∧ ∀ C, C.testBit a = true → ClosedT n xs C → ∀ b, (orR xs S (mems S)).testBit b = true → C.testBit b = true) := by
  have hln : xs.length = n := by have := tourOk_size ht; omega
  refine ⟨fun e => ⟨hS, ha, fun b c hb h1 h2 => ?_, hl⟩, fun e => ⟨?_, ?_, fun C h1 h2 b hb => ?_⟩⟩
  · rw [← e, orR_bit]
    exact .inr ⟨(b : Int), mem_mems.2 ⟨b, by omega, h1, rfl⟩, (bts_row ht (by omega)).1 h2⟩
  · have hle : S ≤ orR xs S (mems S) := orR_ge xs _ S
    omega
  · rw [orR_bit]; exact .inl ha
  · rw [orR_bit] at hb
    rcases hb with hb | ⟨d, hd, hb⟩
    · exact hl C h1 h2 b hb
    · obtain ⟨x, hx, h3, rfl⟩ := mem_mems.1 hd
      have hxn := bit_in hS h3
      exact h2 x b hxn (hl C h1 h2 x h3) ((bts_row ht (by omega)).2 hb)
theorem reach_start {n : Nat} (xs : List Int) {a : Nat} (ha : a < n) : 2 ^ a < 2 ^ n ∧ (2 ^ a).testBit a = true ∧ ∀ C, C.testBit a = true → ClosedT n xs C → ∀ b, (2 ^ a).testBit b = true → C.testBit b = true :=
  ⟨Nat.pow_lt_pow_right (by omega) ha, by rw [Nat.testBit_two_pow]; simp, fun C h1 _ b hb => by
    rw [Nat.testBit_two_pow] at hb
    have : a = b := of_decide_eq_true hb
    subst this; exact h1⟩
/-! ### Parts -/
/-- What is known when the order's entries from j on are done: the parts are as many as L. -/
structure PartT (n : Nat) (xs o : List Int) (j K L : Nat) : Prop where
  lt : K < 2 ^ n
  inK : ∀ i, j ≤ i → i < n → K.testBit (o.getD i 0).toNat = true
  closed : ClosedT n xs K
  le : L + j ≤ n
  rev : L + j = n → ∀ i k, j ≤ i → i < k → k < n → bts xs (o.getD i 0).toNat (o.getD k 0).toNat
  mono : noRev n xs o → L + j = n ∧ ∀ b, K.testBit b = true → ∃ i, j ≤ i ∧ i < n ∧ (o.getD i 0).toNat = b
theorem part_start (n : Nat) (xs o : List Int) : PartT n xs o n 0 0 where
  lt := Nat.two_pow_pos n
  inK := fun i h1 h2 => by omega
  closed := fun b c _ h => by simp at h
  le := by omega
  rev := fun _ i k h1 h2 h3 => by omega
  mono := fun _ => ⟨by omega, fun b h => by simp at h⟩
theorem closed_or {n : Nat} {xs : List Int} {A B : Nat} (hA : ClosedT n xs A) (hB : ClosedT n xs B) : ClosedT n xs (A ||| B) := fun b c hb h1 h2 => by
  rw [Nat.testBit_or, Bool.or_eq_true] at h1 ⊢
  rcases h1 with h1 | h1
  · exact .inl (hA b c hb h1 h2)
  · exact .inr (hB b c hb h1 h2)
/-- The players from j on. -/
def fromS (n j : Nat) : Nat := ((2 ^ n - 1) >>> j) <<< j
theorem fromS_bit (n j b : Nat) : (fromS n j).testBit b = true ↔ j ≤ b ∧ b < n := by
  unfold fromS
  rw [Nat.testBit_shiftLeft, Nat.testBit_shiftRight, Nat.testBit_two_pow_sub_one, Bool.and_eq_true, decide_eq_true_eq, decide_eq_true_eq]
  constructor
  · rintro ⟨h1, h2⟩; omega
  · rintro ⟨h1, h2⟩; omega
theorem perm_get {n : Nat} {o : List Int} (ho : isPerm n o) {i : Nat} (hi : i < n) : ∃ a : Nat, a < n ∧ o[i]? = some (a : Int) ∧ (o.getD i 0).toNat = a := by
  have hx : o[i]? = some (o[i]'(by rw [ho.1]; exact hi)) := List.getElem?_eq_getElem _
  have hb := ho.2.2 _ (List.mem_of_getElem? hx)
  generalize o[i]'(by rw [ho.1]; exact hi) = x at hx hb
  exact ⟨x.toNat, by omega, by rw [hx]; congr 1; omega, by rw [List.getD_eq_getElem?_getD, hx]; rfl⟩
theorem perm_ne {n : Nat} {o : List Int} (ho : isPerm n o) {i k : Nat} (hi : i < n) (hk : k < n) (hne : i ≠ k) : (o.getD i 0).toNat ≠ (o.getD k 0).toNat := by
  obtain ⟨a, ha, h1, e1⟩ := perm_get ho hi
  obtain ⟨b, hb, h2, e2⟩ := perm_get ho hk
  rw [e1, e2]
  intro e
  subst e
  exact hne ((List.getElem?_inj (by rw [ho.1]; exact hi) ho.2.1).1 (h1.trans h2.symm))
/-- The last k of an order, as a set. -/
def sufD (n : Nat) (o : List Int) : Nat → Nat
  | 0 => 0
  | k + 1 => sufD n o k ||| 2 ^ (o.getD (n - 1 - k) 0).toNat
theorem sufD_bit (n : Nat) (o : List Int) (b : Nat) : ∀ k, k ≤ n → ((sufD n o k).testBit b = true ↔ ∃ i, n - k ≤ i ∧ i < n ∧ (o.getD i 0).toNat = b) := by
  intro k
  induction k with
  | zero =>
    intro _
    constructor
    · intro h; simp [sufD] at h
    · rintro ⟨i, h1, h2, _⟩; omega
  | succ k ih =>
    intro hk
    simp only [sufD]
    rw [Nat.testBit_or, Bool.or_eq_true, ih (by omega), Nat.testBit_two_pow, decide_eq_true_eq]
    constructor
    · rintro (⟨i, h1, h2, h3⟩ | h)
      · exact ⟨i, by omega, h2, h3⟩
      · exact ⟨n - 1 - k, by omega, by omega, h⟩
    · rintro ⟨i, h1, h2, h3⟩
      by_cases e : i = n - 1 - k
      · subst e; exact .inr h3
      · exact .inl ⟨i, by omega, h2, h3⟩
theorem perm_all {n : Nat} {o : List Int} (hn8 : n ≤ 8) (ho : isPerm n o) {b : Nat} (hb : b < n) : (b : Int) ∈ o := by
  obtain ⟨i, _, hi⟩ := nodup_full hn8 ho b hb
  exact List.mem_of_getElem? hi
theorem part_step {n : Nat} {xs o : List Int} {j K L a R : Nat} (ht : tourOk (n : Int) xs) (ho : isPerm n o) (hj : j < n) (ha : (o.getD j 0).toNat = a) (hr : IsReach n xs a R) (h : PartT n xs o (j + 1) K L) :
    (K.testBit a = true → PartT n xs o j K L) ∧ (K.testBit a = false → PartT n xs o j (K ||| R) (L + 1)) := by
  have hln : xs.length = n := by have := tourOk_size ht; omega
  have hn8 : n ≤ 8 := by have := tourOk_size ht; omega
  have han : a < n := by rw [← ha]; obtain ⟨x, hx, _, e⟩ := perm_get ho hj; omega
  refine ⟨fun hk => ⟨h.lt, fun i h1 h2 => ?_, h.closed, by have := h.le; omega, fun e => ?_, fun hmo => ?_⟩, fun hk => ⟨?_, fun i h1 h2 => ?_, closed_or h.closed hr.closed, by have := h.le; omega, fun e i k h1 h2 h3 => ?_, fun hmo => ⟨?_, fun b hb => ?_⟩⟩⟩
  · by_cases e : i = j
    · subst e; rw [ha]; exact hk
    · exact h.inK i (by omega) h2
  · exfalso; have := h.le; omega
  · exfalso
    obtain ⟨i, h1, h2, h3⟩ := (h.mono hmo).2 a hk
    exact perm_ne ho hj h2 (by omega) (ha.trans h3.symm)
  · refine lt_of_bits fun b hb => ?_
    rw [Nat.testBit_or, Bool.or_eq_true] at hb
    rcases hb with hb | hb
    · exact bit_in h.lt hb
    · exact bit_in hr.lt hb
  · rw [Nat.testBit_or, Bool.or_eq_true]
    by_cases e : i = j
    · subst e; rw [ha]; exact .inr hr.mem
    · exact .inl (h.inK i (by omega) h2)
  · by_cases e2 : i = j
    · subst e2
      obtain ⟨b, hb, _, eb⟩ := perm_get ho h3
      have hne := perm_ne ho hj h3 (by omega)
      rw [ha, eb] at hne ⊢
      refine (bts_anti ht (by omega) (by omega) hne).2 fun hba => ?_
      have hkb := h.inK k (by omega) h3
      rw [eb] at hkb
      have := h.closed b a hb hkb hba
      rw [hk] at this; cases this
    · exact h.rev (by omega) i k (by omega) h2 h3
  · have := (h.mono hmo).1; omega
  · rw [Nat.testBit_or, Bool.or_eq_true] at hb
    rcases hb with hb | hb
    · obtain ⟨i, h1, h2, h3⟩ := (h.mono hmo).2 b hb
      exact ⟨i, by omega, h2, h3⟩
    · have h1 := hr.least (sufD n o (n - j)) ((sufD_bit n o a (n - j) (by omega)).2 ⟨j, by omega, hj, ha⟩) (fun x c hx h1 h2 => by
        obtain ⟨i, i1, i2, i3⟩ := (sufD_bit n o x (n - j) (by omega)).1 h1
        have hcn := row_bit ht hx ((bts_row ht (by omega)).1 h2)
        obtain ⟨k, k2, hk2⟩ := List.getElem_of_mem (perm_all hn8 ho hcn)
        have k3 : k < n := by rw [← ho.1]; exact k2
        have k4 : (o.getD k 0).toNat = c := by rw [List.getD_eq_getElem?_getD, List.getElem?_eq_getElem k2, hk2]; simp
        refine (sufD_bit n o c (n - j) (by omega)).2 ⟨k, ?_, k3, k4⟩
        rcases Nat.lt_trichotomy k i with h5 | h5 | h5
        · exfalso
          have h6 := hmo.2 k i h5 i2
          rw [k4, i3] at h6
          exact (bts_anti ht (by omega) (by omega) (fun e => by subst e; exact bts_self ht (by omega) h2)).1 h2 h6
        · omega
        · omega) b hb
      obtain ⟨i, i1, i2, i3⟩ := (sufD_bit n o b (n - j) (by omega)).1 h1
      exact ⟨i, by omega, i2, i3⟩
theorem part_end {n : Nat} {xs o : List Int} {K L : Nat} (ho : isPerm n o) (h : PartT n xs o 0 K L) : L ≤ n ∧ (L = n ↔ noRev n xs o) :=
  ⟨by have := h.le; omega, fun e => ⟨ho, fun i k h1 h2 => h.rev (by omega) i k (by omega) h1 h2⟩, fun hm => by have := (h.mono hm).1; omega⟩
/-! ### The least number of reversals -/
/-- How many of a set beat a player. -/
def costT (xs : List Int) (n a S : Nat) : Nat := pc (S &&& (2 ^ n - 1 - rowN xs (a : Int) - 2 ^ a))
theorem take_bitB {m a : Nat} (h : m.testBit a = true) (b : Nat) : (m - 2 ^ a).testBit b = (m.testBit b && !decide (a = b)) := by
  have hr : m % 2 ^ a < 2 ^ a := Nat.mod_lt _ (Nat.two_pow_pos a)
  have h2 : m / 2 ^ a % 2 = 1 := by rw [Nat.testBit_eq_decide_div_mod_eq] at h; exact of_decide_eq_true h
  have e0 : m = 2 ^ a * (m / 2 ^ a) + m % 2 ^ a := (Nat.div_add_mod m (2 ^ a)).symm
  have e1 : m / 2 ^ a = 2 * (m / 2 ^ a / 2) + 1 := by omega
  generalize m / 2 ^ a / 2 = q at e1
  generalize m % 2 ^ a = r at *
  have e3 : m = 2 ^ (a + 1) * q + (2 ^ a * 1 + r) := by
    rw [e0, e1, Nat.mul_add, ← Nat.mul_assoc, Nat.pow_succ]; omega
  have e4 : m - 2 ^ a = 2 ^ (a + 1) * q + r := by omega
  have p2 : 2 ^ (a + 1) = 2 * 2 ^ a := by rw [Nat.pow_succ]; omega
  have f3 : m = 2 ^ (a + 1) * q ||| (2 ^ a * 1 ||| r) := by
    rw [← Nat.two_pow_add_eq_or_of_lt hr, ← Nat.two_pow_add_eq_or_of_lt (by omega)]; exact e3
  have f4 : m - 2 ^ a = 2 ^ (a + 1) * q ||| r := by rw [← Nat.two_pow_add_eq_or_of_lt (by omega)]; exact e4
  have hra : r.testBit a = false := Nat.testBit_lt_two_pow hr
  have hqa : (2 ^ (a + 1) * q).testBit a = false := by rw [Nat.testBit_two_pow_mul]; simp; omega
  rw [f4]
  conv => rhs; rw [f3]
  rw [Nat.testBit_or, Nat.testBit_or, Nat.testBit_or, Nat.mul_one, Nat.testBit_two_pow]
  by_cases e : a = b
  · subst e; simp [hra, hqa]
  · simp [e]
theorem losses_bit {n : Nat} {xs : List Int} (ht : tourOk (n : Int) xs) {a b : Nat} (ha : a < n) : (2 ^ n - 1 - rowN xs (a : Int) - 2 ^ a).testBit b = true ↔ b < n ∧ bts xs b a := by
  have hln : xs.length = n := by have := tourOk_size ht; omega
  have hr := row_lt ht ha
  have hself : (rowN xs (a : Int)).testBit a = false := by
    cases e : (rowN xs (a : Int)).testBit a with
    | false => rfl
    | true => exact absurd ((bts_row ht (by omega)).2 e) (bts_self ht (by omega))
  have e1 : 2 ^ n - 1 - rowN xs (a : Int) = 2 ^ n - (rowN xs (a : Int) + 1) := by omega
  have hb1 : ∀ c, (2 ^ n - 1 - rowN xs (a : Int)).testBit c = (decide (c < n) && !(rowN xs (a : Int)).testBit c) := fun c => by rw [e1, Nat.testBit_two_pow_sub_succ hr]
  have hba : (2 ^ n - 1 - rowN xs (a : Int)).testBit a = true := by rw [hb1, hself]; simp [ha]
  rw [take_bitB hba, hb1]
  constructor
  · intro h
    simp only [Bool.and_eq_true, decide_eq_true_eq, Bool.not_eq_true', decide_eq_false_iff_not] at h
    obtain ⟨⟨h1, h2⟩, h3⟩ := h
    refine ⟨h1, (bts_anti ht (by omega) (by omega) (fun e => h3 (by omega))).2 fun h4 => ?_⟩
    rw [(bts_row ht (by omega)).1 h4] at h2
    cases h2
  · rintro ⟨h1, h2⟩
    have hne : a ≠ b := fun e => by subst e; exact bts_self ht (by omega) h2
    have h4 : (rowN xs (a : Int)).testBit b = false := by
      cases e : (rowN xs (a : Int)).testBit b with
      | false => rfl
      | true => exact absurd ((bts_row ht (by omega)).2 e) ((bts_anti ht (by omega) (by omega) (fun e => hne e.symm)).1 h2)
    simp [h1, h4, hne]

/-! ### Scores of an order without reversals -/
theorem pc_add : ∀ m : Nat, m < 256 → ∀ b : Nat, b < 8 → m.testBit b = false → pc (m ||| 2 ^ b) = pc m + 1 ∧ m ||| 2 ^ b < 256 := by decide +kernel
theorem suf_pc {n : Nat} {o : List Int} (hn8 : n ≤ 8) (ho : isPerm n o) : ∀ k, k ≤ n → pc (sufD n o k) = k ∧ sufD n o k < 256 := by
  intro k
  induction k with
  | zero => intro _; exact ⟨by simp [sufD, pc], by simp [sufD]⟩
  | succ k ih =>
    intro hk
    obtain ⟨h1, h2⟩ := ih (by omega)
    obtain ⟨a, ha, _, ea⟩ := perm_get ho (show n - 1 - k < n by omega)
    have hb : (sufD n o k).testBit a = false := by
      cases e : (sufD n o k).testBit a with
      | false => rfl
      | true =>
        obtain ⟨i, i1, i2, i3⟩ := (sufD_bit n o a k (by omega)).1 e
        exact absurd (ea.trans i3.symm) (perm_ne ho (by omega) i2 (by omega))
    have h3 := pc_add _ h2 a (by omega) hb
    simp only [sufD, ea]
    exact ⟨by rw [h3.1, h1], h3.2⟩
theorem noRev_score {n : Nat} {xs o : List Int} (ht : tourOk (n : Int) xs) (h : noRev n xs o) {i : Nat} (hi : i < n) : pc (rowN xs ((o.getD i 0).toNat : Int)) = n - 1 - i := by
  have hln : xs.length = n := by have := tourOk_size ht; omega
  have hn8 : n ≤ 8 := by have := tourOk_size ht; omega
  obtain ⟨a, ha, _, ea⟩ := perm_get h.1 hi
  rw [ea]
  have e : rowN xs (a : Int) = sufD n o (n - 1 - i) := Nat.eq_of_testBit_eq fun b => by
    rw [Bool.eq_iff_iff, ← bts_row ht (by omega), sufD_bit n o b (n - 1 - i) (by omega)]
    constructor
    · intro hb
      have hbn := row_bit ht ha ((bts_row ht (by omega)).1 hb)
      obtain ⟨k, k2, hk2⟩ := List.getElem_of_mem (perm_all hn8 h.1 hbn)
      have k3 : k < n := by rw [← h.1.1]; exact k2
      have k4 : (o.getD k 0).toNat = b := by rw [List.getD_eq_getElem?_getD, List.getElem?_eq_getElem k2, hk2]; simp
      refine ⟨k, ?_, k3, k4⟩
      rcases Nat.lt_trichotomy k i with h5 | h5 | h5
      · exfalso
        have h6 := h.2 k i h5 hi
        rw [k4, ea] at h6
        exact (bts_anti ht (by omega) (by omega) (fun e => by subst e; exact bts_self ht (by omega) hb)).1 hb h6
      · exfalso
        subst h5
        have : a = b := by omega
        subst this
        exact bts_self ht (by omega) hb
      · omega
    · rintro ⟨k, k1, k2, k3⟩
      have h6 := h.2 i k (by omega) k2
      rw [ea, k3] at h6
      exact h6
  rw [e]
  exact (suf_pc hn8 h.1 _ (by omega)).1
theorem noRev_beats {n : Nat} {xs o : List Int} (ht : tourOk (n : Int) xs) (h : noRev n xs o) {a b : Nat} (ha : a < n) (hb : b < n) (hs : pc (rowN xs (b : Int)) < pc (rowN xs (a : Int))) : bts xs a b := by
  have hn8 : n ≤ 8 := by have := tourOk_size ht; omega
  have g : ∀ c, c < n → ∃ k, k < n ∧ (o.getD k 0).toNat = c := fun c hc => by
    obtain ⟨k, k2, hk2⟩ := List.getElem_of_mem (perm_all hn8 h.1 hc)
    exact ⟨k, by rw [← h.1.1]; exact k2, by rw [List.getD_eq_getElem?_getD, List.getElem?_eq_getElem k2, hk2]; simp⟩
  obtain ⟨i, hi, ei⟩ := g a ha
  obtain ⟨k, hk, ek⟩ := g b hb
  have s1 := noRev_score ht h hi
  have s2 := noRev_score ht h hk
  rw [ei] at s1
  rw [ek] at s2
  have := h.2 i k (by omega) hk
  rwa [ei, ek] at this
theorem noRev_distinct {n : Nat} {xs o : List Int} (ht : tourOk (n : Int) xs) (h : noRev n xs o) {a b : Nat} (ha : a < n) (hb : b < n) (hne : a ≠ b) : pc (rowN xs (a : Int)) ≠ pc (rowN xs (b : Int)) := by
  have hn8 : n ≤ 8 := by have := tourOk_size ht; omega
  have g : ∀ c, c < n → ∃ k, k < n ∧ (o.getD k 0).toNat = c := fun c hc => by
    obtain ⟨k, k2, hk2⟩ := List.getElem_of_mem (perm_all hn8 h.1 hc)
    exact ⟨k, by rw [← h.1.1]; exact k2, by rw [List.getD_eq_getElem?_getD, List.getElem?_eq_getElem k2, hk2]; simp⟩
  obtain ⟨i, hi, ei⟩ := g a ha
  obtain ⟨k, hk, ek⟩ := g b hb
  have s1 := noRev_score ht h hi
  have s2 := noRev_score ht h hk
  rw [ei] at s1
  rw [ek] at s2
  intro e
  have : i = k := by omega
  subst this
  exact hne (ei.symm.trans ek)
theorem mono_noRev {n : Nat} {xs : List Int} (h : monoT n xs) : noRev n xs (upto n) := by
  have g : ∀ k, k < n → (upto n).getD k 0 = (k : Int) := fun k hk => by
    unfold upto
    rw [List.getD_eq_getElem?_getD, List.getElem?_map, List.getElem?_range hk]; rfl
  refine ⟨⟨upto_len n, upto_nodup n, fun x hx => ?_⟩, fun i k h1 h2 => ?_⟩
  · unfold upto at hx
    obtain ⟨j, hj, rfl⟩ := List.mem_map.1 hx
    have := List.mem_range.1 hj
    omega
  · rw [g i (by omega), g k h2, Int.toNat_natCast, Int.toNat_natCast]
    exact h i k h1 h2

end Go.Proofs.YtbaljgdepicigaaDoor
