/-
  Plain lemmas on tours that are drawn: no program.
-/
import Derived.Test.YtbaljgdepicigaaBase
import Derived.Test.YtbaljgdepicigaaMathA
import Derived.Test.YtbaljgdepicigaaMathD
import Derived.Test.YtbaljgdepicigaaMathB
import Derived.Test.YtbaljgdepicigaaMathU
import Derived.Test.YtbaljgdepicigaaMathW
import Derived.Test.YtbaljgdepicigaaMathZ
import Derived.Test.YtbaljgdepicigaaMathY
import Derived.Test.YtbaljgdepicigaaMathG
import Derived.Test.YtbaljgdepicigaaMathQ
import Derived.Test.YtbaljgdepicigaaMathX
namespace Go.Proofs.Ytbaljgdepicigaa
set_option linter.unusedVariables false

/-! ### Rows of bits -/
def rowsOk (n : Nat) (xs : List Int) : Prop := xs.length = n ∧ ∀ x ∈ xs, 0 ≤ x ∧ x < 256
theorem rowsOk_get {n : Nat} {xs : List Int} (h : rowsOk n xs) {a : Nat} (ha : a < n) : ∃ m : Nat, xs[a]? = some (m : Int) ∧ m < 256 := by
  have hl : a < xs.length := by rw [h.1]; exact ha
  have hm := h.2 _ (List.getElem_mem hl)
  exact ⟨xs[a].toNat, by rw [List.getElem?_eq_getElem hl]; congr 1; omega, by omega⟩
theorem rowsOk_set {n : Nat} {xs : List Int} (h : rowsOk n xs) (a : Nat) {m : Nat} (hm : m < 256) : rowsOk n (xs.set a (m : Int)) :=
  ⟨by rw [List.length_set]; exact h.1, fun x hx => by
    rcases List.mem_or_eq_of_mem_set hx with hx | rfl
    · exact h.2 x hx
    · omega⟩
theorem bts_get {xs : List Int} {a m : Nat} (h : xs[a]? = some (m : Int)) (j : Nat) : bts xs a j ↔ m.testBit j = true := bts_nat h
theorem bts_set_same {xs : List Int} {a : Nat} (ha : a < xs.length) (m j : Nat) : bts (xs.set a (m : Int)) a j ↔ m.testBit j = true := bts_nat (by rw [List.getElem?_set_self ha])
theorem bts_set_other {xs : List Int} {a i : Nat} (h : i ≠ a) (m : Int) (j : Nat) : bts (xs.set a m) i j ↔ bts xs i j := by
  unfold bts
  rw [List.getD_eq_getElem?_getD, List.getD_eq_getElem?_getD, List.getElem?_set_ne (by omega)]
theorem bts_out {xs : List Int} {i : Nat} (h : xs.length ≤ i) (j : Nat) : ¬ bts xs i j := by
  have e : xs.getD i 0 = ((0 : Nat) : Int) := by rw [List.getD_eq_getElem?_getD, List.getElem?_eq_none h]; rfl
  have h2 : bts [((0 : Nat) : Int)] 0 j ↔ (0 : Nat).testBit j = true := bts_nat rfl
  unfold bts at *
  rw [e]
  intro hb
  have := h2.1 hb
  simp at this
theorem xor_lt8 {m a : Nat} (hm : m < 256) (ha : a < 8) : m ^^^ 2 ^ a < 256 := Nat.xor_lt_two_pow (n := 8) hm (Nat.pow_lt_pow_right (by omega) ha)
theorem xor_bit (m a j : Nat) : (m ^^^ 2 ^ a).testBit j = (m.testBit j ^^ decide (a = j)) := by rw [Nat.testBit_xor, Nat.testBit_two_pow]
theorem bts_add {n : Nat} {xs : List Int} (h : rowsOk n xs) {a b m : Nat} (hx : xs[a]? = some (m : Int)) (hm : m < 256) (hb : b < 8) (hn : ¬ bts xs a b) :
    m + 2 ^ b < 256 ∧ rowsOk n (xs.set a ((m + 2 ^ b : Nat) : Int)) ∧ ∀ i j, j < 8 → (bts (xs.set a ((m + 2 ^ b : Nat) : Int)) i j ↔ bts xs i j ∨ (i = a ∧ j = b)) := by
  have ha : a < xs.length := (List.getElem?_eq_some_iff.1 hx).1
  have hf : m.testBit b = false := by
    cases e : m.testBit b with
    | false => rfl
    | true => exact absurd ((bts_get hx b).2 e) hn
  have hlt := bit_add_lt m hm b hb hf
  refine ⟨hlt, rowsOk_set h a hlt, fun i j hj => ?_⟩
  by_cases e : i = a
  · subst e
    rw [bts_set_same ha, bit_add m hm b hb hf j hj, bts_get hx, Bool.or_eq_true, beq_iff_eq]
    constructor
    · rintro (h | h)
      · exact .inl h
      · exact .inr ⟨rfl, h.symm⟩
    · rintro (h | ⟨_, h⟩)
      · exact .inl h
      · exact .inr h.symm
  · rw [bts_set_other e]
    exact ⟨.inl, fun hh => hh.elim id fun hh => absurd hh.1 e⟩
theorem bts_xor {n : Nat} {xs : List Int} (h : rowsOk n xs) {a b m : Nat} (hx : xs[a]? = some (m : Int)) (hm : m < 256) (hb : b < 8) :
    m ^^^ 2 ^ b < 256 ∧ rowsOk n (xs.set a ((m ^^^ 2 ^ b : Nat) : Int)) ∧ ∀ i j, bts (xs.set a ((m ^^^ 2 ^ b : Nat) : Int)) i j ↔ if i = a ∧ j = b then ¬ bts xs i j else bts xs i j := by
  have ha : a < xs.length := (List.getElem?_eq_some_iff.1 hx).1
  have hlt := xor_lt8 hm hb
  refine ⟨hlt, rowsOk_set h a hlt, fun i j => ?_⟩
  by_cases e : i = a
  · subst e
    rw [bts_set_same ha, xor_bit, bts_get hx]
    by_cases e2 : j = b
    · subst e2; cases m.testBit j <;> simp
    · rw [if_neg (fun hh => e2 hh.2)]
      have : ¬ b = j := fun hh => e2 hh.symm
      simp [this]
  · rw [if_neg (fun hh => e hh.1), bts_set_other e]
theorem tourOk_of {n : Nat} {xs : List Int} (h1 : 1 ≤ n) (h8 : n ≤ 8) (hr : rowsOk n xs) (hb : ∀ i j, i < n → j < n → i < j → (bts xs i j ↔ ¬ bts xs j i)) (hs : ∀ i, i < n → ¬ bts xs i i) (ho : ∀ i j, i < n → n ≤ j → j < 8 → ¬ bts xs i j) : tourOk (n : Int) xs := by
  refine ⟨by omega, by rw [hr.1], fun x hx => ?_, fun a ha => ?_⟩
  · obtain ⟨i, hi, rfl⟩ := List.getElem_of_mem hx
    rw [hr.1] at hi ⊢
    obtain ⟨m, hm, hm8⟩ := rowsOk_get hr hi
    have e : xs[i]'(by rw [hr.1]; exact hi) = (m : Int) := by
      have := List.getElem?_eq_getElem (l := xs) (i := i) (by rw [hr.1]; exact hi)
      rw [hm] at this; exact (Option.some.inj this).symm
    rw [e]
    have hlt : m < 2 ^ n := by
      apply Nat.lt_pow_two_of_testBit
      intro j hj
      cases et : m.testBit j with
      | false => rfl
      | true =>
        rcases Nat.lt_or_ge j 8 with h | h
        · exact absurd ((bts_get hm j).2 et) (ho i j hi hj h)
        · rw [Nat.testBit_lt_two_pow (Nat.lt_of_lt_of_le (show m < 2 ^ 8 by omega) (Nat.pow_le_pow_right (by omega) h))] at et; cases et
    have h3 : ((2 ^ n : Nat) : Int) = (2 : Int) ^ n := by simp
    rw [← h3]
    omega
  · rw [hr.1] at ha
    refine ⟨fun b hba => ?_, hs a ha⟩
    have := hb b a (by omega) ha hba
    by_cases e1 : bts xs a b <;> by_cases e2 : bts xs b a <;> simp_all
theorem tourOk_rows {n : Nat} {xs : List Int} (h : tourOk (n : Int) xs) : rowsOk n xs := ⟨by have := tourOk_size h; omega, fun x hx => by have := tourOk_row h x hx; omega⟩
theorem tourOk_high {n : Nat} {xs : List Int} (h : tourOk (n : Int) xs) {i j : Nat} (hi : i < n) (hj : n ≤ j) : ¬ bts xs i j := by
  have hsz := tourOk_size h
  have e : xs.length = n := by omega
  obtain ⟨m, hm, hlt⟩ := row_nat h (a := i) (by omega)
  rw [bts_get hm, Nat.testBit_lt_two_pow (Nat.lt_of_lt_of_le hlt (Nat.pow_le_pow_right (by omega) (by omega)))]
  simp

/-! ### A tour out of bits -/
def prOf (n a b i j : Nat) : Prop := i < j ∧ j < n ∧ (i < a ∨ i = a ∧ j < b)
def OfSt (n a b : Nat) (xs : List Int) : Prop := rowsOk n xs ∧ ∀ i j, i < 8 → j < 8 → (prOf n a b i j → (bts xs i j ↔ ¬ bts xs j i)) ∧ (¬ prOf n a b i j → ¬ prOf n a b j i → ¬ bts xs i j)
theorem zero_bts (n i j : Nat) : ¬ bts (List.replicate n (0 : Int)) i j := by
  rcases Nat.lt_or_ge i n with h | h
  · rw [bts_nat (m := 0) (by rw [List.getElem?_replicate, if_pos h]; rfl)]; simp
  · exact bts_out (by simpa using h) j
theorem ofSt_start (n : Nat) : OfSt n 0 1 (List.replicate n 0) := by
  refine ⟨⟨by simp, fun x hx => by rw [List.eq_of_mem_replicate hx]; omega⟩, fun i j hi hj => ⟨fun h => ?_, fun _ _ => zero_bts n i j⟩⟩
  obtain ⟨h1, h2, h3⟩ := h
  omega
theorem ofSt_none {n a b : Nat} {xs : List Int} (h : OfSt n a b xs) (hab : a < b) (hbn : b < n) (hn : n ≤ 8) : ¬ bts xs a b ∧ ¬ bts xs b a := by
  have h1 : ¬ prOf n a b a b := fun h => by obtain ⟨_, _, h3⟩ := h; omega
  have h2 : ¬ prOf n a b b a := fun h => by obtain ⟨h3, _⟩ := h; omega
  exact ⟨(h.2 a b (by omega) (by omega)).2 h1 h2, (h.2 b a (by omega) (by omega)).2 h2 h1⟩
theorem ofSt_step {n a b : Nat} {xs ys : List Int} (h : OfSt n a b xs) (hab : a < b) (hbn : b < n) (hn : n ≤ 8) (hy : rowsOk n ys) (u v : Nat) (huv : (u = a ∧ v = b) ∨ (u = b ∧ v = a)) (hb : ∀ i j, j < 8 → (bts ys i j ↔ bts xs i j ∨ (i = u ∧ j = v))) : OfSt n a (b + 1) ys := by
  obtain ⟨n1, n2⟩ := ofSt_none h hab hbn hn
  refine ⟨hy, fun i j hi hj => ⟨fun hp => ?_, fun hp1 hp2 => ?_⟩⟩
  · rw [hb i j hj, hb j i hi]
    obtain ⟨p1, p2, p3⟩ := hp
    by_cases e : i = a ∧ j = b
    · obtain ⟨rfl, rfl⟩ := e
      rcases huv with ⟨rfl, rfl⟩ | ⟨rfl, rfl⟩
      · constructor
        · rintro _ (h | h)
          · exact n2 h
          · omega
        · intro _; exact .inr ⟨rfl, rfl⟩
      · constructor
        · rintro (h | h)
          · exact absurd h n1
          · omega
        · intro h; exact absurd (.inr ⟨rfl, rfl⟩) h
    · have hq : prOf n a b i j := ⟨p1, p2, by omega⟩
      have := (h.2 i j hi hj).1 hq
      have e1 : ¬ (i = u ∧ j = v) := by omega
      have e2 : ¬ (j = u ∧ i = v) := by omega
      simp only [e1, e2, or_false]
      exact this
  · rw [hb i j hj]
    rintro (hh | hh)
    · refine (h.2 i j hi hj).2 (fun hq => hp1 ?_) (fun hq => hp2 ?_) hh
      · obtain ⟨q1, q2, q3⟩ := hq; exact ⟨q1, q2, by omega⟩
      · obtain ⟨q1, q2, q3⟩ := hq; exact ⟨q1, q2, by omega⟩
    · rcases huv with ⟨rfl, rfl⟩ | ⟨rfl, rfl⟩
      · exact hp1 ⟨by omega, by omega, by omega⟩
      · exact hp2 ⟨by omega, by omega, by omega⟩
theorem ofSt_next {n a : Nat} {xs : List Int} (h : OfSt n a n xs) : OfSt n (a + 1) (a + 2) xs := by
  refine ⟨h.1, fun i j hi hj => ⟨fun hp => (h.2 i j hi hj).1 ?_, fun h1 h2 => (h.2 i j hi hj).2 (fun hp => h1 ?_) (fun hp => h2 ?_)⟩⟩
  · obtain ⟨p1, p2, p3⟩ := hp; exact ⟨p1, p2, by omega⟩
  · obtain ⟨p1, p2, p3⟩ := hp; exact ⟨p1, p2, by omega⟩
  · obtain ⟨p1, p2, p3⟩ := hp; exact ⟨p1, p2, by omega⟩
theorem ofSt_end {n b : Nat} {xs : List Int} (h1 : 1 ≤ n) (h8 : n ≤ 8) (h : OfSt n n b xs) : tourOk (n : Int) xs := by
  refine tourOk_of h1 h8 h.1 (fun i j hi hj hij => (h.2 i j (by omega) (by omega)).1 ⟨hij, hj, .inl hi⟩) (fun i hi => ?_) (fun i j hi hj h8j => ?_)
  · refine (h.2 i i (by omega) (by omega)).2 (fun hp => ?_) (fun hp => ?_) <;> (obtain ⟨p1, _⟩ := hp; omega)
  · refine (h.2 i j (by omega) h8j).2 (fun hp => ?_) (fun hp => ?_)
    · obtain ⟨_, p2, _⟩ := hp; omega
    · obtain ⟨p1, p2, _⟩ := hp; omega

/-! ### One result reversed -/
theorem flip_ok {n : Nat} {xs : List Int} (ht : tourOk (n : Int) xs) {a b ma mb : Nat} (hne : a ≠ b) (ha : xs[a]? = some (ma : Int)) (hb : xs[b]? = some (mb : Int)) (hma : ma < 256) (hmb : mb < 256) (han : a < n) (hbn : b < n) :
    tourOk (n : Int) ((xs.set a ((ma ^^^ 2 ^ b : Nat) : Int)).set b ((mb ^^^ 2 ^ a : Nat) : Int)) := by
  have hsz := tourOk_size ht
  have hl : xs.length = n := by omega
  obtain ⟨_, r1, b1⟩ := bts_xor (tourOk_rows ht) ha hma (show b < 8 by omega)
  obtain ⟨_, r2, b2⟩ := bts_xor r1 (a := b) (b := a) (m := mb) (by rw [List.getElem?_set_ne hne]; exact hb) hmb (by omega)
  have key : ∀ i j, bts ((xs.set a ((ma ^^^ 2 ^ b : Nat) : Int)).set b ((mb ^^^ 2 ^ a : Nat) : Int)) i j ↔ if (i = a ∧ j = b) ∨ (i = b ∧ j = a) then ¬ bts xs i j else bts xs i j := fun i j => by
    rw [b2 i j]
    by_cases e1 : i = b ∧ j = a
    · rw [if_pos e1, if_pos (.inr e1), b1 i j, if_neg (by omega)]
    · rw [if_neg e1, b1 i j]
      by_cases e2 : i = a ∧ j = b
      · rw [if_pos e2, if_pos (.inl e2)]
      · rw [if_neg e2, if_neg (by omega)]
  refine tourOk_of (by omega) (by omega) r2 (fun i j hi hj hij => ?_) (fun i hi => ?_) (fun i j hi hj h8 => ?_)
  · rw [key i j, key j i]
    have := bts_anti ht (a := i) (b := j) (by omega) (by omega) (by omega)
    by_cases e : (i = a ∧ j = b) ∨ (i = b ∧ j = a)
    · rw [if_pos e, if_pos (by omega)]
      by_cases e1 : bts xs i j <;> by_cases e2 : bts xs j i <;> simp_all
    · rw [if_neg e, if_neg (by omega)]; exact this
  · rw [key i i, if_neg (by omega)]; exact bts_self ht (by omega)
  · rw [key i j, if_neg (by omega)]; exact tourOk_high ht hi hj

/-! ### Other names -/
def doneR (a b i j : Nat) : Prop := i < a ∨ i = a ∧ j < b
def RenSt (n : Nat) (xs names : List Int) (a b : Nat) (zs : List Int) : Prop := rowsOk n zs ∧ ∀ u v : Nat, v < 8 → (bts zs u v ↔ ∃ i j, i < n ∧ j < n ∧ names[i]? = some (u : Int) ∧ names[j]? = some (v : Int) ∧ doneR a b i j ∧ bts xs i j)
theorem renSt_start (n : Nat) (xs names : List Int) : RenSt n xs names 0 0 (List.replicate n 0) := by
  refine ⟨⟨by simp, fun x hx => by rw [List.eq_of_mem_replicate hx]; omega⟩, fun u v hv => ⟨fun h => absurd h (zero_bts n u v), ?_⟩⟩
  rintro ⟨i, j, _, _, _, _, h, _⟩
  unfold doneR at h
  omega
theorem nodup_idx {l : List Int} (h : l.Nodup) {i j : Nat} {x : Int} (hi : l[i]? = some x) (hj : l[j]? = some x) : i = j := by
  exact (List.getElem?_inj (List.getElem?_eq_some_iff.1 hi).1 h).1 (hi.trans hj.symm)
theorem renSt_no {n : Nat} {xs names zs : List Int} {a b : Nat} (h : RenSt n xs names a b zs) (hn : ¬ bts xs a b) : RenSt n xs names a (b + 1) zs := by
  refine ⟨h.1, fun u v hv => ?_⟩
  rw [h.2 u v hv]
  constructor
  · rintro ⟨i, j, h1, h2, h3, h4, h5, h6⟩
    exact ⟨i, j, h1, h2, h3, h4, by unfold doneR at *; omega, h6⟩
  · rintro ⟨i, j, h1, h2, h3, h4, h5, h6⟩
    refine ⟨i, j, h1, h2, h3, h4, ?_, h6⟩
    by_cases e : i = a ∧ j = b
    · obtain ⟨rfl, rfl⟩ := e; exact absurd h6 hn
    · unfold doneR at *; omega
theorem renSt_yes {n : Nat} {xs names zs : List Int} {a b u v m : Nat} (hn8 : n ≤ 8) (hnd : names.Nodup) (h : RenSt n xs names a b zs) (hb : bts xs a b) (han : a < n) (hbn : b < n) (hu : names[a]? = some (u : Int)) (hv : names[b]? = some (v : Int)) (hv8 : v < 8)
    (hm : zs[u]? = some (m : Int)) (hm8 : m < 256) : m + 2 ^ v < 256 ∧ RenSt n xs names a (b + 1) (zs.set u ((m + 2 ^ v : Nat) : Int)) := by
  have hno : ¬ bts zs u v := by
    rw [h.2 u v hv8]
    rintro ⟨i, j, h1, h2, h3, h4, h5, h6⟩
    have e1 := nodup_idx hnd hu h3
    have e2 := nodup_idx hnd hv h4
    unfold doneR at h5
    omega
  obtain ⟨k1, k2, k3⟩ := bts_add h.1 hm hm8 hv8 hno
  refine ⟨k1, k2, fun u' v' hv' => ?_⟩
  rw [k3 u' v' hv', h.2 u' v' hv']
  constructor
  · rintro (⟨i, j, h1, h2, h3, h4, h5, h6⟩ | ⟨rfl, rfl⟩)
    · exact ⟨i, j, h1, h2, h3, h4, by unfold doneR at *; omega, h6⟩
    · exact ⟨a, b, han, hbn, hu, hv, by unfold doneR; omega, hb⟩
  · rintro ⟨i, j, h1, h2, h3, h4, h5, h6⟩
    by_cases e : i = a ∧ j = b
    · obtain ⟨rfl, rfl⟩ := e
      rw [hu] at h3; rw [hv] at h4
      have e1 := Option.some.inj h3
      have e2 := Option.some.inj h4
      exact .inr ⟨by omega, by omega⟩
    · exact .inl ⟨i, j, h1, h2, h3, h4, by unfold doneR at *; omega, h6⟩
theorem renSt_next {n : Nat} {xs names zs : List Int} {a : Nat} (h : RenSt n xs names a n zs) : RenSt n xs names (a + 1) 0 zs := by
  refine ⟨h.1, fun u v hv => ?_⟩
  rw [h.2 u v hv]
  constructor <;> (rintro ⟨i, j, h1, h2, h3, h4, h5, h6⟩; exact ⟨i, j, h1, h2, h3, h4, by unfold doneR at *; omega, h6⟩)
/-- An order of the first n numbers. -/
def isPerm (n : Nat) (o : List Int) : Prop := o.length = n ∧ o.Nodup ∧ ∀ x ∈ o, 0 ≤ x ∧ x < (n : Int)
theorem bit_ltF {v a : Nat} (hv : v < 256) (h : v.testBit a = true) : a < 8 := by
  rcases Nat.lt_or_ge a 8 with h1 | h1
  · exact h1
  · rw [Nat.testBit_lt_two_pow (Nat.lt_of_lt_of_le (show v < 2 ^ 8 by omega) (Nat.pow_le_pow_right (by omega) h1))] at h; cases h
theorem pc_full : ∀ n : Nat, n < 9 → ∀ m : Nat, m < 256 → m < 2 ^ n → pc m = n → m = 2 ^ n - 1 := by decide +kernel
theorem nodup_full {n : Nat} {o : List Int} (hn8 : n ≤ 8) (h : isPerm n o) : ∀ u : Nat, u < n → ∃ i, i < n ∧ o[i]? = some (u : Int) := by
  intro u hu
  have hb : ∀ x ∈ o, 0 ≤ x ∧ x < 8 := fun x hx => by have := h.2.2 x hx; omega
  obtain ⟨h1, h2⟩ := orN_bits o hb
  have h3 := (orN_pc o hb).2.2 h.2.1
  have hlt : orN o < 2 ^ n := by
    apply Nat.lt_pow_two_of_testBit
    intro i hi
    cases e : (orN o).testBit i with
    | false => rfl
    | true =>
      have h8 := bit_ltF h1 e
      rw [h2 i h8] at e
      have := h.2.2 (i : Int) (by simpa using e)
      omega
  have he := pc_full n (by omega) _ h1 hlt (by rw [h3, h.1])
  have hbit : (orN o).testBit u = true := by rw [he, Nat.testBit_two_pow_sub_one]; simpa using hu
  rw [h2 u (by omega)] at hbit
  have hm : (u : Int) ∈ o := by simpa using hbit
  obtain ⟨i, hi, e⟩ := List.getElem_of_mem hm
  exact ⟨i, by rw [← h.1]; exact hi, by rw [List.getElem?_eq_getElem hi, e]⟩
theorem renSt_end {n : Nat} {xs names zs : List Int} (ht : tourOk (n : Int) xs) (hp : isPerm n names) (h : RenSt n xs names n 0 zs) : tourOk (n : Int) zs := by
  have hsz := tourOk_size ht
  have hl : xs.length = n := by omega
  have key : ∀ i j u v : Nat, i < n → j < n → names[i]? = some (u : Int) → names[j]? = some (v : Int) → v < 8 → (bts zs u v ↔ bts xs i j) := fun i j u v hi hj hu hv hv8 => by
    rw [h.2 u v hv8]
    constructor
    · rintro ⟨i', j', h1, h2, h3, h4, h5, h6⟩
      rw [nodup_idx hp.2.1 hu h3, nodup_idx hp.2.1 hv h4]; exact h6
    · intro hb; exact ⟨i, j, hi, hj, hu, hv, .inl hi, hb⟩
  refine tourOk_of (by omega) (by omega) h.1 (fun u v hu hv huv => ?_) (fun u hu => ?_) (fun u v hu hv h8 => ?_)
  · obtain ⟨i, hi, ei⟩ := nodup_full (by omega) hp u hu
    obtain ⟨j, hj, ej⟩ := nodup_full (by omega) hp v hv
    rw [key i j u v hi hj ei ej (by omega), key j i v u hj hi ej ei (by omega)]
    refine bts_anti ht (by omega) (by omega) ?_
    rintro rfl
    rw [ei] at ej
    have := Option.some.inj ej
    omega
  · obtain ⟨i, hi, ei⟩ := nodup_full (by omega) hp u hu
    rw [key i i u u hi hi ei ei (by omega)]
    exact bts_self ht (by omega)
  · rw [h.2 u v h8]
    rintro ⟨i, j, h1, h2, h3, h4, h5, h6⟩
    have := hp.2.2 _ (List.mem_of_getElem? h4)
    omega
/-! ### An order, drawn -/
theorem isPerm_insert {n k : Nat} {l : List Int} (h : isPerm n l) : isPerm (n + 1) (l.take k ++ [(n : Int)] ++ l.drop k) := by
  have hp : (l.take k ++ [(n : Int)] ++ l.drop k).Perm ((n : Int) :: l) := by
    have h1 : (l.take k ++ [(n : Int)] ++ l.drop k).Perm ([(n : Int)] ++ l.take k ++ l.drop k) := List.Perm.append_right _ List.perm_append_comm
    rw [List.append_assoc, List.append_assoc, List.take_append_drop] at h1
    rw [List.append_assoc]
    exact h1
  refine ⟨by rw [hp.length_eq, List.length_cons, h.1], hp.nodup_iff.2 (List.nodup_cons.2 ⟨fun hm => ?_, h.2.1⟩), fun x hx => ?_⟩
  · have := h.2.2 _ hm; omega
  · rcases List.mem_cons.1 (hp.mem_iff.1 hx) with rfl | hx
    · omega
    · have := h.2.2 x hx; omega

end Go.Proofs.Ytbaljgdepicigaa
