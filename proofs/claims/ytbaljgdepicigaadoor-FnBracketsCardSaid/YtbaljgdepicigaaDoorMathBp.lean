/-
  Plain lemmas on the least number of reversals of an order. No program.
-/
import Derived.Test.YtbaljgdepicigaaDoorBase
import Derived.Test.YtbaljgdepicigaaDoorMgA
import Derived.Test.YtbaljgdepicigaaDoorMgB
import Derived.Test.YtbaljgdepicigaaDoorMathBo
namespace Go.Proofs.YtbaljgdepicigaaDoor
set_option linter.unusedVariables false

theorem pc_zero {m : Nat} (h : m < 256) (h0 : pc m = 0) : m = 0 := by
  rcases Nat.eq_zero_or_pos m with e | e
  · exact e
  · have := pc_pos m h e; omega
theorem cost_zero {n : Nat} {xs : List Int} (ht : tourOk (n : Int) xs) {a S : Nat} (ha : a < n) (hS : S < 2 ^ n) : costT xs n a S = 0 ↔ ∀ b, S.testBit b = true → ¬ bts xs b a := by
  have hn8 : n ≤ 8 := by have := tourOk_size ht; omega
  have h8 := pow8 hn8
  have hlt : S &&& (2 ^ n - 1 - rowN xs (a : Int) - 2 ^ a) < 256 := Nat.lt_of_le_of_lt Nat.and_le_left (by omega)
  unfold costT
  constructor
  · intro h b hb hba
    have e := pc_zero hlt h
    have : (S &&& (2 ^ n - 1 - rowN xs (a : Int) - 2 ^ a)).testBit b = true := by
      rw [Nat.testBit_and, hb, (losses_bit ht ha).2 ⟨bit_in hS hb, hba⟩]; rfl
    rw [e] at this
    simp at this
  · intro h
    have e : S &&& (2 ^ n - 1 - rowN xs (a : Int) - 2 ^ a) = 0 := Nat.eq_of_testBit_eq fun b => by
      rw [Nat.zero_testBit, Nat.testBit_and]
      cases hb : S.testBit b with
      | false => rfl
      | true =>
        cases hc : (2 ^ n - 1 - rowN xs (a : Int) - 2 ^ a).testBit b with
        | false => rfl
        | true => exact absurd ((losses_bit ht ha).1 hc).2 (h b hb)
    rw [e]; rfl
/-- What the list of least numbers of reversals is, as far as m. -/
structure OptT (n : Nat) (xs F : List Int) (m : Nat) : Prop where
  len : F.length = 2 ^ n
  zero : F.getD 0 0 = 0
  pos : ∀ S, S < m → 0 ≤ F.getD S 0 ∧ F.getD S 0 ≤ 8 * S
  le : ∀ S a, 1 ≤ S → S < m → S.testBit a = true → F.getD S 0 ≤ (costT xs n a S : Int) + F.getD (S - 2 ^ a) 0
  ex : ∀ S, 1 ≤ S → S < m → ∃ a, S.testBit a = true ∧ F.getD S 0 = (costT xs n a S : Int) + F.getD (S - 2 ^ a) 0
/-- The least of the first k members of a set. -/
structure MinT (n : Nat) (xs F : List Int) (S k : Nat) (v : Int) : Prop where
  no0 : k = 0 → v = -1
  so1 : 0 < k → (0 ≤ v ∧ v ≤ 8 * S) ∧ ∃ a : Nat, S.testBit a = true ∧ v = (costT xs n a S : Int) + F.getD (S - 2 ^ a) 0
  le : ∀ i (a : Nat), i < k → (mems S)[i]? = some (a : Int) → v ≤ (costT xs n a S : Int) + F.getD (S - 2 ^ a) 0
theorem min_start (n : Nat) (xs F : List Int) (S : Nat) : MinT n xs F S 0 (-1) := ⟨fun _ => rfl, fun h => by omega, fun i a h => by omega⟩
theorem sub_bit {S a : Nat} (h : S.testBit a = true) : S - 2 ^ a + 2 ^ a = S ∧ 1 ≤ 2 ^ a := by
  have := Nat.ge_two_pow_of_testBit h
  have := Nat.two_pow_pos a
  omega
theorem cost_bound (xs : List Int) (n a S : Nat) : costT xs n a S ≤ 8 := by unfold costT pc; omega
theorem leg_bnd {n : Nat} {xs F : List Int} {m S a : Nat} (h : OptT n xs F m) (hS : S ≤ m) (hb : S.testBit a = true) : 0 ≤ (costT xs n a S : Int) + F.getD (S - 2 ^ a) 0 ∧ (costT xs n a S : Int) + F.getD (S - 2 ^ a) 0 ≤ 8 * S := by
  have h1 := sub_bit hb
  have h2 := h.pos (S - 2 ^ a) (by omega)
  have h3 := cost_bound xs n a S
  omega
theorem min_step {n : Nat} {xs F : List Int} {S k a : Nat} {v : Int} (h : OptT n xs F S) (hm : MinT n xs F S k v) (ha : (mems S)[k]? = some (a : Int)) :
    MinT n xs F S (k + 1) (if v < 0 ∨ (costT xs n a S : Int) + F.getD (S - 2 ^ a) 0 < v then (costT xs n a S : Int) + F.getD (S - 2 ^ a) 0 else v) := by
  obtain ⟨x, _, hxb, e⟩ := mem_mems.1 (List.mem_of_getElem? ha)
  have hxa : x = a := by omega
  subst hxa
  have hb := leg_bnd h (Nat.le_refl _) hxb
  generalize hL : (costT xs n x S : Int) + F.getD (S - 2 ^ x) 0 = L at *
  by_cases hc : v < 0 ∨ L < v
  · rw [if_pos hc]
    refine ⟨fun e => by omega, fun _ => ⟨hb, x, hxb, hL.symm⟩, fun i y hi hy => ?_⟩
    by_cases e : i = k
    · subst e
      rw [ha] at hy
      have : x = y := by have := Option.some.inj hy; omega
      subst this
      omega
    · have h1 := hm.le i y (by omega) hy
      rcases Nat.eq_zero_or_pos k with h0 | h0
      · omega
      · have := (hm.so1 h0).1; omega
  · rw [if_neg hc]
    refine ⟨fun e => by omega, fun _ => ?_, fun i y hi hy => ?_⟩
    · rcases Nat.eq_zero_or_pos k with h0 | h0
      · have := hm.no0 h0; omega
      · exact hm.so1 h0
    · by_cases e : i = k
      · subst e
        rw [ha] at hy
        have : x = y := by have := Option.some.inj hy; omega
        subst this
        omega
      · exact hm.le i y (by omega) hy
theorem getD_set_ne {l : List Int} {i j : Nat} (v : Int) (h : i ≠ j) : (l.set i v).getD j 0 = l.getD j 0 := by
  rw [List.getD_eq_getElem?_getD, List.getElem?_set_ne h, List.getD_eq_getElem?_getD]
theorem getD_set_self {l : List Int} {i : Nat} (v : Int) (h : i < l.length) : (l.set i v).getD i 0 = v := by
  rw [List.getD_eq_getElem?_getD, List.getElem?_set_self h]; rfl
theorem opt_step {n : Nat} {xs F : List Int} {S : Nat} {v : Int} (hn : n ≤ 8) (h : OptT n xs F S) (h1 : 1 ≤ S) (hS : S < 2 ^ n) (hm : MinT n xs F S (mems S).length v) : OptT n xs (F.set S v) (S + 1) := by
  have hl := h.len
  have hself : (F.set S v).getD S 0 = v := getD_set_self v (by omega)
  have hne : ∀ T, T < S → (F.set S v).getD T 0 = F.getD T 0 := fun T hT => getD_set_ne v (by omega)
  have hsub : ∀ {T a}, T.testBit a = true → T - 2 ^ a < T := fun h => by have := sub_bit h; omega
  have hpos : 0 < (mems S).length := by
    rcases Nat.eq_zero_or_pos (mems S).length with e | e
    · exfalso
      have e2 : mems S = [] := List.length_eq_zero_iff.1 e
      have : S = 0 := Nat.eq_of_testBit_eq fun b => by
        rw [Nat.zero_testBit]
        cases hb : S.testBit b with
        | false => rfl
        | true =>
          have hbn := bit_in hS hb
          have : (b : Int) ∈ mems S := mem_mems.2 ⟨b, by omega, hb, rfl⟩
          rw [e2] at this; cases this
      omega
    · exact e
  obtain ⟨hb, a0, ha0, e0⟩ := hm.so1 hpos
  refine ⟨by rw [List.length_set]; exact hl, by rw [hne 0 (by omega)]; exact h.zero, fun T hT => ?_, fun T a h2 hT hb2 => ?_, fun T h2 hT => ?_⟩
  · by_cases e : T = S
    · subst e; rw [hself]; exact hb
    · rw [hne T (by omega)]; exact h.pos T (by omega)
  · have hlt := hsub hb2
    by_cases e : T = S
    · subst e
      rw [hself, hne _ hlt]
      have hbn := bit_in hS hb2
      obtain ⟨i, hi, hx⟩ := List.getElem_of_mem (mem_mems.2 ⟨a, by omega, hb2, rfl⟩ : (a : Int) ∈ mems T)
      exact hm.le i a hi (by rw [List.getElem?_eq_getElem hi, hx])
    · rw [hne T (by omega), hne _ (by omega)]; exact h.le T a h2 (by omega) hb2
  · by_cases e : T = S
    · subst e
      exact ⟨a0, ha0, by rw [hself, hne _ (hsub ha0)]; exact e0⟩
    · obtain ⟨a, ha, e2⟩ := h.ex T h2 (by omega)
      have := hsub ha
      exact ⟨a, ha, by rw [hne T (by omega), hne _ (by omega)]; exact e2⟩
/-! ### No reversals at all -/
theorem opt_mono {n : Nat} {xs F : List Int} (ht : tourOk (n : Int) xs) (h : OptT n xs F (2 ^ n)) (hm : monoT n xs) : ∀ S, S < 2 ^ n → F.getD S 0 = 0 := by
  intro S
  have hln : xs.length = n := by have := tourOk_size ht; omega
  induction S using Nat.strongRecOn with
  | ind S ih =>
    intro hS
    rcases Nat.eq_zero_or_pos S with e | e
    · subst e; exact h.zero
    · -- the least member
      obtain ⟨a, ha, hmin⟩ : ∃ a, S.testBit a = true ∧ ∀ b, S.testBit b = true → a ≤ b := by
        have hne : ∃ a, S.testBit a = true := by
          obtain ⟨a, ha, _⟩ := h.ex S e hS
          exact ⟨a, ha⟩
        obtain ⟨a0, ha0⟩ := hne
        have key : ∀ k, (∃ b, b < k ∧ S.testBit b = true) → ∃ a, S.testBit a = true ∧ ∀ b, S.testBit b = true → a ≤ b := by
          intro k
          induction k with
          | zero => rintro ⟨b, hb, _⟩; omega
          | succ k ih2 =>
            rintro ⟨b, hb, hbb⟩
            by_cases hx : ∃ b, b < k ∧ S.testBit b = true
            · exact ih2 hx
            · refine ⟨b, hbb, fun c hc => ?_⟩
              rcases Nat.lt_or_ge c k with h1 | h1
              · exact absurd ⟨c, h1, hc⟩ hx
              · omega
        exact key (a0 + 1) ⟨a0, by omega, ha0⟩
      have han := bit_in hS ha
      have hc : costT xs n a S = 0 := (cost_zero ht han hS).2 fun b hb hba => by
        have h1 := hmin b hb
        have h2 := bit_in hS hb
        rcases Nat.eq_or_lt_of_le h1 with e2 | e2
        · subst e2; exact bts_self ht (by omega) hba
        · exact (bts_anti ht (by omega) (by omega) (by omega)).1 (hm a b e2 h2) hba
      have h1 := sub_bit ha
      have h2 := h.le S a e hS ha
      have h3 := ih (S - 2 ^ a) (by omega) (by omega)
      have h4 := h.pos S hS
      rw [hc, h3] at h2
      omega
theorem mem_uptoB {n : Nat} {x : Int} (h : x ∈ upto n) : 0 ≤ x ∧ x < (n : Int) := by
  unfold upto at h
  obtain ⟨j, hj, rfl⟩ := List.mem_map.1 h
  have := List.mem_range.1 hj
  omega
theorem opt_noRev {n : Nat} {xs F o : List Int} (ht : tourOk (n : Int) xs) (h : OptT n xs F (2 ^ n)) (ho : noRev n xs o) : F.getD (2 ^ n - 1) 0 = 0 := by
  have hln : xs.length = n := by have := tourOk_size ht; omega
  have hbn : ∀ k, k ≤ n → sufD n o k < 2 ^ n := fun k hk => lt_of_bits fun b hb => by
    obtain ⟨i, h1, h2, h3⟩ := (sufD_bit n o b k hk).1 hb
    obtain ⟨a, ha, _, e⟩ := perm_get ho.1 h2
    omega
  have key : ∀ k, k ≤ n → F.getD (sufD n o k) 0 = 0 := by
    intro k
    induction k with
    | zero => intro _; exact h.zero
    | succ k ih =>
      intro hk
      have ih := ih (by omega)
      obtain ⟨a, ha, hoa, ea⟩ := perm_get ho.1 (show n - 1 - k < n by omega)
      have hbit : (sufD n o (k + 1)).testBit a = true := (sufD_bit n o a (k + 1) hk).2 ⟨n - 1 - k, by omega, by omega, ea⟩
      have hS := hbn (k + 1) hk
      have e1 : sufD n o (k + 1) - 2 ^ a = sufD n o k := Nat.eq_of_testBit_eq fun b => by
        rw [take_bitB hbit, Bool.eq_iff_iff, Bool.and_eq_true, sufD_bit n o b (k + 1) hk, sufD_bit n o b k (by omega)]
        simp only [Bool.not_eq_true', decide_eq_false_iff_not]
        constructor
        · rintro ⟨⟨i, h1, h2, h3⟩, h4⟩
          by_cases e : i = n - 1 - k
          · subst e; omega
          · exact ⟨i, by omega, h2, h3⟩
        · rintro ⟨i, h1, h2, h3⟩
          refine ⟨⟨i, by omega, h2, h3⟩, fun e => ?_⟩
          exact perm_ne ho.1 (show n - 1 - k < n by omega) h2 (by omega) (by rw [ea, h3, e])
      have hc : costT xs n a (sufD n o (k + 1)) = 0 := (cost_zero ht ha hS).2 fun b hb hba => by
        obtain ⟨i, h1, h2, h3⟩ := (sufD_bit n o b (k + 1) hk).1 hb
        by_cases e : i = n - 1 - k
        · subst e
          have : a = b := by omega
          subst this
          exact bts_self ht (by omega) hba
        · have h4 := ho.2 (n - 1 - k) i (by omega) h2
          rw [ea, h3] at h4
          have hbl := bit_in hS hb
          have hne : a ≠ b := fun e2 => by subst e2; exact bts_self ht (by omega) hba
          exact (bts_anti ht (by omega) (by omega) hne).1 h4 hba
      have hpos : 1 ≤ sufD n o (k + 1) := by have := sub_bit hbit; omega
      have h2 := h.le _ a hpos hS hbit
      have h3 := h.pos _ hS
      rw [e1, hc, ih] at h2
      omega
  have hfull : sufD n o n = 2 ^ n - 1 := Nat.eq_of_testBit_eq fun b => by
    rw [Nat.testBit_two_pow_sub_one, Bool.eq_iff_iff, decide_eq_true_eq, sufD_bit n o b n (Nat.le_refl _)]
    constructor
    · rintro ⟨i, h1, h2, h3⟩
      obtain ⟨a, ha, _, e⟩ := perm_get ho.1 h2
      omega
    · intro hb
      obtain ⟨i, hi, hx⟩ := List.getElem_of_mem (perm_all (show n ≤ 8 by have := tourOk_size ht; omega) ho.1 hb)
      refine ⟨i, by omega, by rw [← ho.1.1]; exact hi, ?_⟩
      rw [List.getD_eq_getElem?_getD, List.getElem?_eq_getElem hi, hx]; simp
  rw [← hfull]
  exact key n (Nat.le_refl _)
/-! ### The best order -/
structure BestT (n : Nat) (xs F out : List Int) (S : Nat) : Prop where
  lt : S < 2 ^ n
  bits : ∀ b : Nat, S.testBit b = true ↔ b < n ∧ (b : Int) ∉ out
  sub : ∀ x ∈ out, 0 ≤ x ∧ x < (n : Int)
  nodup : out.Nodup
  mono : monoT n xs → out = upto out.length
  zero : F.getD (2 ^ n - 1) 0 = 0 → F.getD S 0 = 0 ∧ (∀ i k, i < k → k < out.length → bts xs (out.getD i 0).toNat (out.getD k 0).toNat) ∧ ∀ i, i < out.length → ∀ b, S.testBit b = true → bts xs (out.getD i 0).toNat b
theorem best_start (n : Nat) (xs F : List Int) : BestT n xs F [] (2 ^ n - 1) where
  lt := by have := Nat.two_pow_pos n; omega
  bits := fun b => by rw [Nat.testBit_two_pow_sub_one, decide_eq_true_eq]; simp
  sub := fun x hx => by cases hx
  nodup := List.nodup_nil
  mono := fun _ => rfl
  zero := fun h => ⟨h, fun i k h1 h2 => by simp at h2, fun i h1 => by simp at h1⟩
theorem best_step {n : Nat} {xs F out : List Int} {S a : Nat} (ht : tourOk (n : Int) xs) (ho : OptT n xs F (2 ^ n)) (h : BestT n xs F out S) (ha : S.testBit a = true) (he : (costT xs n a S : Int) + F.getD (S - 2 ^ a) 0 = F.getD S 0) : BestT n xs F (out ++ [(a : Int)]) (S - 2 ^ a) := by
  have hln : xs.length = n := by have := tourOk_size ht; omega
  have h1 := sub_bit ha
  have hb := (h.bits a).1 ha
  have hS' : S - 2 ^ a < 2 ^ n := by have := h.lt; omega
  have hbits : ∀ b : Nat, (S - 2 ^ a).testBit b = true ↔ S.testBit b = true ∧ a ≠ b := fun b => by
    rw [take_bitB ha, Bool.and_eq_true]
    simp
  have hcz : F.getD S 0 = 0 → costT xs n a S = 0 ∧ F.getD (S - 2 ^ a) 0 = 0 := fun e => by
    have := (ho.pos _ hS').1
    omega
  refine ⟨hS', fun b => ?_, fun x hx => ?_, ?_, fun hm => ?_, fun hz => ?_⟩
  · rw [hbits, h.bits]
    simp only [List.mem_append, List.mem_singleton, not_or]
    constructor
    · rintro ⟨⟨h2, h3⟩, h4⟩; exact ⟨h2, h3, by omega⟩
    · rintro ⟨h2, h3, h4⟩; exact ⟨⟨h2, h3⟩, by omega⟩
  · rcases List.mem_append.1 hx with hx | hx
    · exact h.sub x hx
    · have : x = (a : Int) := by simpa using hx
      omega
  · rw [List.nodup_append]
    exact ⟨h.nodup, by simp, fun x hx y hy => by
      have : y = (a : Int) := by simpa using hy
      subst this
      intro e; subst e; exact hb.2 hx⟩
  · have hF := opt_mono ht ho hm
    have hc := (hcz (hF S h.lt)).1
    have hk := h.mono hm
    have hak : a = out.length := by
      have hge : out.length ≤ a := by
        rcases Nat.lt_or_ge a out.length with h2 | h2
        · exfalso
          apply hb.2
          rw [hk]
          unfold upto
          exact List.mem_map.2 ⟨a, List.mem_range.2 h2, rfl⟩
        · exact h2
      rcases Nat.eq_or_lt_of_le hge with e | e
      · exact e.symm
      · exfalso
        have hkS : S.testBit out.length = true := (h.bits _).2 ⟨by omega, fun hmem => by
          have h5 : (out.length : Int) ∈ upto out.length := by rw [← hk]; exact hmem
          have := mem_uptoB h5
          omega⟩
        exact (cost_zero ht hb.1 h.lt).1 hc _ hkS (hm _ _ e hb.1)
    rw [List.length_append, List.length_singleton, hak]
    conv => lhs; rw [hk]
    simp [upto, List.range_succ]
  · obtain ⟨z1, z2, z3⟩ := h.zero hz
    obtain ⟨hc, hf⟩ := hcz z1
    have hla : (out ++ [(a : Int)]).getD out.length 0 = (a : Int) := by
      rw [List.getD_eq_getElem?_getD, List.getElem?_append_right (Nat.le_refl _)]; simp
    have hlo : ∀ i, i < out.length → (out ++ [(a : Int)]).getD i 0 = out.getD i 0 := fun i hi => by
      rw [List.getD_eq_getElem?_getD, List.getElem?_append_left hi, List.getD_eq_getElem?_getD]
    refine ⟨hf, fun i k hik hk => ?_, fun i hi b hb2 => ?_⟩
    · rw [List.length_append, List.length_singleton] at hk
      by_cases e : k = out.length
      · subst e
        rw [hla, hlo i hik, Int.toNat_natCast]
        exact z3 i hik a ha
      · rw [hlo i (by omega), hlo k (by omega)]
        exact z2 i k hik (by omega)
    · rw [List.length_append, List.length_singleton] at hi
      obtain ⟨hb3, hb4⟩ := (hbits b).1 hb2
      by_cases e : i = out.length
      · subst e
        rw [hla, Int.toNat_natCast]
        have hbn := bit_in h.lt hb3
        exact (bts_anti ht (by omega) (by omega) hb4).2 ((cost_zero ht hb.1 h.lt).1 hc b hb3)
      · rw [hlo i (by omega)]
        exact z3 i (by omega) b hb3
theorem best_end {n : Nat} {xs F out : List Int} (ht : tourOk (n : Int) xs) (ho : OptT n xs F (2 ^ n)) (h : BestT n xs F out 0) : (monoT n xs → out = upto n) ∧ (out = upto n → (∃ o, noRev n xs o) → monoT n xs) := by
  have hall : ∀ b : Nat, b < n → (b : Int) ∈ out := fun b hb => Decidable.byContradiction fun hx => by
    have := (h.bits b).2 ⟨hb, hx⟩
    simp at this
  refine ⟨fun hm => ?_, fun e ⟨o, hr⟩ a b hab hb => ?_⟩
  · have hk := h.mono hm
    have hn : out.length = n := by
      generalize out.length = k at hk
      subst hk
      rcases Nat.lt_trichotomy k n with h1 | h1 | h1
      · exfalso
        have := hall k h1
        unfold upto at this
        obtain ⟨j, hj, e2⟩ := List.mem_map.1 this
        have := List.mem_range.1 hj
        omega
      · exact h1
      · exfalso
        have := h.sub (n : Int) (by unfold upto; exact List.mem_map.2 ⟨n, List.mem_range.2 h1, rfl⟩)
        omega
    rw [hk, hn]
  · have hz := (h.zero (opt_noRev ht ho hr)).2.1 a b hab (by rw [e, upto_len]; exact hb)
    have g : ∀ k, k < n → (upto n).getD k 0 = (k : Int) := fun k hk => by
      unfold upto
      rw [List.getD_eq_getElem?_getD, List.getElem?_map, List.getElem?_range hk]; rfl
    rw [e, g a (by omega), g b hb, Int.toNat_natCast, Int.toNat_natCast] at hz
    exact hz

end Go.Proofs.YtbaljgdepicigaaDoor
