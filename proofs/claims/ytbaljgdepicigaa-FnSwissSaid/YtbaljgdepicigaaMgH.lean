/-
  Several texts of plain lemmas and contracts in one.
-/
import Derived.Test.YtbaljgdepicigaaBase
import Derived.Test.YtbaljgdepicigaaMathA
import Derived.Test.YtbaljgdepicigaaMathD
import Derived.Test.YtbaljgdepicigaaMathB
import Derived.Test.YtbaljgdepicigaaMathU
import Derived.Test.YtbaljgdepicigaaMathW
import Derived.Test.YtbaljgdepicigaaMathZ
import Derived.Test.YtbaljgdepicigaaMathY
import Derived.Test.YtbaljgdepicigaaMathG
import Derived.Test.YtbaljgdepicigaaMathQ
import Derived.Test.YtbaljgdepicigaaMathX
import Derived.Test.YtbaljgdepicigaaMathF
import Derived.Test.YtbaljgdepicigaaMathO
import Derived.Test.YtbaljgdepicigaaMathS
import Derived.Test.YtbaljgdepicigaaMathP
/-
  Plain lemmas on meetings that are drawn: no program.
-/
namespace Go.Proofs.Ytbaljgdepicigaa
set_option linter.unusedVariables false

theorem or_lt256 {m a : Nat} (hm : m < 256) (ha : a < 8) : m ||| 2 ^ a < 256 := Nat.or_lt_two_pow (n := 8) hm (Nat.pow_lt_pow_right (by omega) ha)
theorem bts_or {n : Nat} {xs : List Int} (h : rowsOk n xs) {a b m : Nat} (hx : xs[a]? = some (m : Int)) (hm : m < 256) (hb : b < 8) :
    m ||| 2 ^ b < 256 ∧ rowsOk n (xs.set a ((m ||| 2 ^ b : Nat) : Int)) ∧ ∀ i j, bts (xs.set a ((m ||| 2 ^ b : Nat) : Int)) i j ↔ bts xs i j ∨ (i = a ∧ j = b) := by
  have ha : a < xs.length := (List.getElem?_eq_some_iff.1 hx).1
  have hlt := or_lt256 hm hb
  refine ⟨hlt, rowsOk_set h a hlt, fun i j => ?_⟩
  by_cases e : i = a
  · subst e
    rw [bts_set_same ha, Nat.testBit_or, Nat.testBit_two_pow, bts_get hx, Bool.or_eq_true, decide_eq_true_eq]
    constructor
    · rintro (h | h)
      · exact .inl h
      · exact .inr ⟨rfl, h.symm⟩
    · rintro (h | ⟨_, h⟩)
      · exact .inl h
      · exact .inr h.symm
  · rw [bts_set_other e]
    exact ⟨.inl, fun hh => hh.elim id fun hh => absurd hh.1 e⟩
/-- Meetings: each of both has met the other. -/
def MetSt (n : Nat) (ms : List Int) : Prop := rowsOk n ms ∧ (∀ i j, i < n → j < n → (bts ms i j ↔ bts ms j i)) ∧ (∀ i, i < n → ¬ bts ms i i) ∧ ∀ i j, i < n → n ≤ j → j < 8 → ¬ bts ms i j
theorem metSt_zero (n : Nat) : MetSt n (List.replicate n 0) :=
  ⟨⟨by simp, fun x hx => by rw [List.eq_of_mem_replicate hx]; omega⟩, fun i j _ _ => ⟨fun h => absurd h (zero_bts n i j), fun h => absurd h (zero_bts n j i)⟩, fun i _ => zero_bts n i i, fun i j _ _ _ => zero_bts n i j⟩
theorem metSt_set {n : Nat} {ms : List Int} (h : MetSt n ms) (hn : n ≤ 8) {a b ma mb : Nat} (hne : a ≠ b) (ha : a < n) (hb : b < n) (h1 : ms[a]? = some (ma : Int)) (h2 : ms[b]? = some (mb : Int)) (hma : ma < 256) (hmb : mb < 256) :
    MetSt n ((ms.set a ((ma ||| 2 ^ b : Nat) : Int)).set b ((mb ||| 2 ^ a : Nat) : Int)) := by
  obtain ⟨r0, r1, r2, r3⟩ := h
  obtain ⟨_, q1, b1⟩ := bts_or r0 h1 hma (show b < 8 by omega)
  obtain ⟨_, q2, b2⟩ := bts_or q1 (a := b) (b := a) (m := mb) (by rw [List.getElem?_set_ne hne]; exact h2) hmb (by omega)
  have key : ∀ i j, bts ((ms.set a ((ma ||| 2 ^ b : Nat) : Int)).set b ((mb ||| 2 ^ a : Nat) : Int)) i j ↔ bts ms i j ∨ (i = a ∧ j = b) ∨ (i = b ∧ j = a) := fun i j => by
    rw [b2 i j, b1 i j, or_assoc]
  refine ⟨q2, fun i j hi hj => ?_, fun i hi => ?_, fun i j hi hj h8 => ?_⟩
  · rw [key, key, r1 i j hi hj]
    constructor
    · rintro (h | h | h)
      · exact .inl h
      · exact .inr (.inr ⟨h.2, h.1⟩)
      · exact .inr (.inl ⟨h.2, h.1⟩)
    · rintro (h | h | h)
      · exact .inl h
      · exact .inr (.inr ⟨h.2, h.1⟩)
      · exact .inr (.inl ⟨h.2, h.1⟩)
  · rw [key]
    rintro (h | h | h)
    · exact r2 i hi h
    · omega
    · omega
  · rw [key]
    rintro (h | h | h)
    · exact r3 i j hi hj h8 h
    · omega
    · omega
theorem metSt_swiss {n : Nat} {xs ms : List Int} (h : MetSt n ms) (hx : isSwiss xs) (hl : xs.length = n) : swissOk xs ms := by
  obtain ⟨r0, r1, r2, r3⟩ := h
  have hn8 : n ≤ 8 := by have := hx.1; omega
  refine ⟨hx, by rw [r0.1, hl], fun m hm => ?_, fun a ha => ⟨?_, fun b hb => ?_⟩⟩
  · obtain ⟨i, hi, rfl⟩ := List.getElem_of_mem hm
    rw [r0.1] at hi ⊢
    obtain ⟨v, hv, hv8⟩ := rowsOk_get r0 hi
    have e : ms[i]'(by rw [r0.1]; exact hi) = (v : Int) := by
      have := List.getElem?_eq_getElem (l := ms) (i := i) (by rw [r0.1]; exact hi)
      rw [hv] at this; exact (Option.some.inj this).symm
    rw [e]
    have hlt : v < 2 ^ n := by
      apply Nat.lt_pow_two_of_testBit
      intro j hj
      cases et : v.testBit j with
      | false => rfl
      | true => exact absurd ((bts_get hv j).2 et) (r3 i j hi hj (bit_ltF hv8 et))
    have h3 : ((2 ^ n : Nat) : Int) = (2 : Int) ^ n := by simp
    rw [← h3]
    omega
  · rw [r0.1] at ha; exact r2 a ha
  · rw [r0.1] at ha
    have h1 := r1 a b ha (by omega)
    unfold bts at h1
    rcases bitAt_01 (ms.getD a 0) b with e | e <;> rcases bitAt_01 (ms.getD b 0) a with f | f <;> simp_all

end Go.Proofs.Ytbaljgdepicigaa
/-
  Plain lemmas on pairings when nobody has met: no program.
-/
namespace Go.Proofs.Ytbaljgdepicigaa
set_option linter.unusedVariables false

/-- How many pairings m players have: (m - 1)(m - 3).. -/
def dfac : Nat → Nat
  | 0 => 1
  | 1 => 0
  | k + 2 => (k + 1) * dfac k
theorem flat_const {f : Nat → List (List Int)} {c : Nat} (h0 : f 0 = []) : ∀ m : Nat, (∀ i, 0 < i → i < m + 1 → (f i).length = c) → ((List.range (m + 1)).flatMap f).length = m * c := by
  intro m
  induction m with
  | zero => intro _; simp [h0]
  | succ m ih =>
    intro h
    rw [List.range_succ, List.flatMap_append, List.length_append, ih (fun i h1 h2 => h i h1 (by omega))]
    have e : ([m + 1].flatMap f) = f (m + 1) := by simp
    rw [e, h (m + 1) (by omega) (by omega), Nat.succ_mul]
theorem rest_len {left : List Int} {i : Nat} (h0 : 0 < i) (hi : i < left.length) : ((left.take i).drop 1 ++ left.drop (i + 1)).length + 2 = left.length := by
  rw [List.length_append, List.length_drop, List.length_take, List.length_drop]; omega
theorem allL_free {ms : List Int} (hm : ∀ a b, mtP ms a b = false) : ∀ (k : Nat) (left ps : List Int), left.length < k → (allL ms k left ps).length = dfac left.length := by
  intro k
  induction k with
  | zero => intro left ps h; omega
  | succ k ih =>
    intro left ps h
    rw [allL]
    by_cases h0 : left.length = 0
    · rw [if_pos h0, h0]; rfl
    · rw [if_neg h0]
      obtain ⟨m, hml⟩ : ∃ m, left.length = m + 1 := ⟨left.length - 1, by omega⟩
      rw [hml]
      rw [flat_const (c := dfac (m - 1)) (by simp [allStep]) m (fun i h1 h2 => ?_)]
      · cases m with
        | zero => simp [dfac]
        | succ m => rfl
      · unfold allStep
        rw [if_neg (by rintro (e | e); omega; rw [hm] at e; cases e)]
        have hr := rest_len (left := left) h1 (by omega)
        rw [ih _ _ (by omega)]
        congr 1; omega
/-- What is not left stays. -/
theorem allL_keep {ms : List Int} : ∀ (k : Nat) (left ps p : List Int), p ∈ allL ms k left ps → (∀ x ∈ left, 0 ≤ x) → ∀ j : Nat, ¬ (j : Int) ∈ left → p.getD j 0 = ps.getD j 0 := by
  intro k
  induction k with
  | zero => intro left ps p h; cases h
  | succ k ih =>
    intro left ps p h hb j hj
    rw [allL] at h
    by_cases h0 : left.length = 0
    · rw [if_pos h0] at h; rw [List.mem_singleton.1 h]
    · rw [if_neg h0, List.mem_flatMap] at h
      obtain ⟨i, hi, h⟩ := h
      unfold allStep at h
      split at h
      · cases h
      · rename_i hn
        have hil : i < left.length := by simpa using hi
        have h00 : 0 < left.length := by omega
        have m0 : left.getD 0 0 ∈ left := by rw [List.getD_eq_getElem?_getD, List.getElem?_eq_getElem h00]; simp
        have mi : left.getD i 0 ∈ left := by rw [List.getD_eq_getElem?_getD, List.getElem?_eq_getElem hil]; simp
        have n0 : (left.getD 0 0).toNat ≠ j := fun e => hj (by have := hb _ m0; rw [← e, Int.toNat_of_nonneg this]; exact m0)
        have ni : (left.getD i 0).toNat ≠ j := fun e => hj (by have := hb _ mi; rw [← e, Int.toNat_of_nonneg this]; exact mi)
        have hsub : ∀ x ∈ (left.take i).drop 1 ++ left.drop (i + 1), x ∈ left := fun x hx => by
          rcases List.mem_append.1 hx with hx | hx
          · exact List.mem_of_mem_take (List.mem_of_mem_drop hx)
          · exact List.mem_of_mem_drop hx
        rw [ih _ _ _ h (fun x hx => hb x (hsub x hx)) j (fun hx => hj (hsub _ hx))]
        have e1 : ∀ (l : List Int) (q : Nat) (v : Int), q ≠ j → (l.set q v).getD j 0 = l.getD j 0 := fun l q v hq => by
          rw [List.getD_eq_getElem?_getD, List.getD_eq_getElem?_getD, List.getElem?_set_ne hq]
        rw [e1 _ _ _ ni, e1 _ _ _ n0]

/-! ### The alternating sum of a sorted list -/
def altS : List Int → Int
  | [] => 0
  | x :: l => x - altS l
/-- One after the other, none is more than the one before. -/
def descL (l : List Int) : Prop := l.Pairwise (fun a b => b ≤ a)
theorem alt_erase : ∀ (l : List Int) (j : Nat) (b : Int), descL l → l[j]? = some b → b ≤ altS l + altS (l.eraseIdx j) ∧ altS l + altS (l.eraseIdx j) ≤ 2 * l.getD 0 0 - b
  | [], j, b, _, h => by simp at h
  | c :: l, 0, b, hd, h => by
    have hcb : c = b := by simpa using h
    subst hcb
    simp [altS]
    omega
  | c :: l, j + 1, b, hd, h => by
    unfold descL at hd
    rw [List.pairwise_cons] at hd
    have h' : l[j]? = some b := by simpa using h
    have ih := alt_erase l j b hd.2 h'
    have h0 : l.getD 0 0 ≤ c := by
      cases l with
      | nil => simp at h'
      | cons x r => exact hd.1 x (by simp)
    have e : (c :: l).getD 0 0 = c := rfl
    rw [e]
    simp only [List.eraseIdx_cons_succ, altS]
    omega
/-! ### No pairing floats less than the one of neighbors -/
def wS (xs p : List Int) (l : List Int) : Int := (l.map fun a => drop1 xs p a.toNat).sum
def vS (xs : List Int) (l : List Int) : List Int := l.map fun a => xs.getD a.toNat 0
theorem wS_perm {xs p l m : List Int} (h : l.Perm m) : wS xs p l = wS xs p m := by
  unfold wS
  induction h with
  | nil => rfl
  | cons x _ ih => simp only [List.map_cons, List.sum_cons, ih]
  | swap x y l => simp only [List.map_cons, List.sum_cons]; omega
  | trans _ _ h1 h2 => rw [h1, h2]
theorem rest_erase {a : Int} {t : List Int} {i : Nat} (hi : i < t.length) : (((a :: t).take (i + 1)).drop 1 ++ (a :: t).drop (i + 1 + 1)) = t.eraseIdx i := by
  rw [List.eraseIdx_eq_take_drop_succ]; simp
theorem vS_erase (xs t : List Int) (j : Nat) : vS xs (t.eraseIdx j) = (vS xs t).eraseIdx j := by
  unfold vS
  rw [List.eraseIdx_eq_take_drop_succ, List.eraseIdx_eq_take_drop_succ, List.map_append, List.map_take, List.map_drop]
theorem perm_erase : ∀ {t : List Int} {j : Nat} {b : Int}, t[j]? = some b → t.Perm (b :: t.eraseIdx j)
  | [], j, b, h => by simp at h
  | c :: t, 0, b, h => by
    obtain rfl : c = b := by simpa using h
    exact List.Perm.refl _
  | c :: t, j + 1, b, h => by
    have h1 := perm_erase (t := t) (j := j) (b := b) (by simpa using h)
    rw [List.eraseIdx_cons_succ]
    exact (h1.cons c).trans (List.Perm.swap b c _)
theorem set_two {ps : List Int} {a b : Int} (ha : 0 ≤ a ∧ a.toNat < ps.length) (hb : 0 ≤ b ∧ b.toNat < ps.length) (hne : a ≠ b) :
    ((ps.set a.toNat b).set b.toNat a).getD a.toNat 0 = b ∧ ((ps.set a.toNat b).set b.toNat a).getD b.toNat 0 = a ∧ ((ps.set a.toNat b).set b.toNat a).length = ps.length := by
  refine ⟨?_, ?_, by simp⟩
  · rw [List.getD_eq_getElem?_getD, List.getElem?_set_ne (by omega), List.getElem?_set_self ha.2]; rfl
  · rw [List.getD_eq_getElem?_getD, List.getElem?_set_self (by simpa using hb.2)]; rfl
/-- One step of a pairing: a and b meet, the others are paired among themselves. -/
theorem wS_step {xs p : List Int} {a b : Int} {t : List Int} {j : Nat} (h : t[j]? = some b) (hpa : p.getD a.toNat 0 = b) (hpb : p.getD b.toNat 0 = a) (hv : xs.getD b.toNat 0 ≤ xs.getD a.toNat 0) :
    wS xs p (a :: t) = xs.getD a.toNat 0 - xs.getD b.toNat 0 + wS xs p (t.eraseIdx j) := by
  rw [wS_perm ((perm_erase h).cons a)]
  have e1 : drop1 xs p a.toNat = xs.getD a.toNat 0 - xs.getD b.toNat 0 := by
    unfold drop1 pt opp; rw [hpa]; omega
  have e2 : drop1 xs p b.toNat = 0 := by
    unfold drop1 pt opp; rw [hpb]; omega
  unfold wS
  simp only [List.map_cons, List.sum_cons, e1, e2]
  omega
theorem wS_ge {xs ms : List Int} : ∀ (k : Nat) (left ps p : List Int), p ∈ allL ms k left ps → (∀ x ∈ left, 0 ≤ x ∧ x.toNat < ps.length) → left.Nodup → descL (vS xs left) → altS (vS xs left) ≤ wS xs p left := by
  intro k
  induction k with
  | zero => intro left ps p h; cases h
  | succ k ih =>
    intro left ps p h hb hn hd
    rw [allL] at h
    cases left with
    | nil => simp [vS, altS, wS]
    | cons a t =>
      rw [if_neg (by simp), List.mem_flatMap] at h
      obtain ⟨i, hi, h⟩ := h
      unfold allStep at h
      split at h
      · cases h
      · rename_i hno
        obtain ⟨j, rfl⟩ : ∃ j, i = j + 1 := ⟨i - 1, by omega⟩
        have hj : j < t.length := by simpa using hi
        obtain ⟨b, hbj⟩ : ∃ b, t[j]? = some b := ⟨t[j], List.getElem?_eq_getElem hj⟩
        have e0 : (a :: t).getD 0 0 = a := rfl
        have e1 : (a :: t).getD (j + 1) 0 = b := by rw [List.getD_eq_getElem?_getD, List.getElem?_cons_succ, hbj]; rfl
        rw [e0, e1, rest_erase hj] at h
        have hbm := List.mem_of_getElem? hbj
        rw [List.nodup_cons] at hn
        have hne : a ≠ b := fun e => hn.1 (e ▸ hbm)
        have ha2 := hb a (by simp)
        have hb2 := hb b (by simp [hbm])
        obtain ⟨s1, s2, s3⟩ := set_two ha2 hb2 hne
        have hsub : ∀ x ∈ t.eraseIdx j, x ∈ t := fun x hx => (List.eraseIdx_sublist t j).subset hx
        have hbn : ¬ b ∈ t.eraseIdx j := fun hx => by
          have := (perm_erase hbj).nodup_iff.1 hn.2
          exact (List.nodup_cons.1 this).1 hx
        have k1 := allL_keep k _ _ p h (fun x hx => (hb x (by simp [hsub x hx])).1) a.toNat (by rw [Int.toNat_of_nonneg ha2.1]; exact fun hx => hn.1 (hsub _ hx))
        have k2 := allL_keep k _ _ p h (fun x hx => (hb x (by simp [hsub x hx])).1) b.toNat (by rw [Int.toNat_of_nonneg hb2.1]; exact hbn)
        have hdv : descL (vS xs t) ∧ ∀ y ∈ vS xs t, y ≤ xs.getD a.toNat 0 := by
          unfold descL vS at hd ⊢
          rw [List.map_cons, List.pairwise_cons] at hd
          exact ⟨hd.2, hd.1⟩
        have hv : xs.getD b.toNat 0 ≤ xs.getD a.toNat 0 := hdv.2 _ (List.mem_map.2 ⟨b, hbm, rfl⟩)
        rw [wS_step hbj (k1.trans s1) (k2.trans s2) hv]
        have i1 := ih _ _ p h (fun x hx => by rw [s3]; exact hb x (by simp [hsub x hx])) (hn.2.sublist (List.eraseIdx_sublist t j)) (by rw [vS_erase]; exact hdv.1.sublist (List.eraseIdx_sublist _ j))
        have i2 := (alt_erase (vS xs t) j (xs.getD b.toNat 0) hdv.1 (by unfold vS; rw [List.getElem?_map, hbj]; rfl)).1
        rw [vS_erase] at i1
        have e2 : altS (vS xs (a :: t)) = xs.getD a.toNat 0 - altS (vS xs t) := rfl
        rw [e2]
        omega
/-- The first pairing, when nobody has met, is that of neighbors. -/
theorem first_alt {xs ms : List Int} (hm : ∀ a b, mtP ms a b = false) : ∀ (k : Nat) (left ps : List Int), left.length < k → left.length % 2 = 0 → (∀ x ∈ left, 0 ≤ x ∧ x.toNat < ps.length) → left.Nodup → descL (vS xs left) →
    ∃ p, (allL ms k left ps).head? = some p ∧ wS xs p left = altS (vS xs left) ∧ (2 ≤ left.length → p.getD (left.getD 0 0).toNat 0 = left.getD 1 0) := by
  intro k
  induction k with
  | zero => intro left ps h; omega
  | succ k ih =>
    intro left ps hk he hb hn hd
    rw [allL]
    match left, hk, he, hb, hn, hd with
    | [], _, _, _, _, _ => exact ⟨ps, by simp, rfl, by simp⟩
    | [a], _, he, _, _, _ => simp at he
    | a :: b :: r, hk, he, hb, hn, hd =>
      rw [if_neg (by simp)]
      have e : (List.range (a :: b :: r).length) = 0 :: 1 :: (List.range r.length).map (· + 2) := by
        rw [List.length_cons, List.length_cons, List.range_succ_eq_map, List.range_succ_eq_map]; simp [Function.comp_def]
      rw [e, List.flatMap_cons, List.flatMap_cons]
      have f0 : allStep ms (a :: b :: r) ps (allL ms k) 0 = [] := by simp [allStep]
      have f1 : allStep ms (a :: b :: r) ps (allL ms k) 1 = allL ms k r ((ps.set a.toNat b).set b.toNat a) := by
        unfold allStep
        rw [if_neg (by rintro (e | e); omega; rw [hm] at e; cases e)]
        simp [List.getD]
      rw [f0, f1, List.nil_append]
      rw [List.nodup_cons, List.nodup_cons] at hn
      have hne : a ≠ b := fun e => hn.1 (by simp [e])
      obtain ⟨s1, s2, s3⟩ := set_two (hb a (by simp)) (hb b (by simp)) hne
      have hd2 : descL (vS xs r) ∧ xs.getD b.toNat 0 ≤ xs.getD a.toNat 0 := by
        unfold descL vS at hd ⊢
        rw [List.map_cons, List.map_cons, List.pairwise_cons, List.pairwise_cons] at hd
        exact ⟨hd.2.2, hd.1 _ (by simp)⟩
      obtain ⟨p, h1, h2, _⟩ := ih r ((ps.set a.toNat b).set b.toNat a) (by simp at hk; omega) (by simp at he; omega) (fun x hx => by rw [s3]; exact hb x (by simp [hx])) hn.2.2 hd2.1
      have hpm : p ∈ allL ms k r ((ps.set a.toNat b).set b.toNat a) := List.mem_of_mem_head? (by rw [h1]; rfl)
      have k1 := allL_keep k _ _ p hpm (fun x hx => (hb x (by simp [hx])).1) a.toNat (by rw [Int.toNat_of_nonneg (hb a (by simp)).1]; exact fun hx => hn.1 (by simp [hx]))
      have k2 := allL_keep k _ _ p hpm (fun x hx => (hb x (by simp [hx])).1) b.toNat (by rw [Int.toNat_of_nonneg (hb b (by simp)).1]; exact hn.2.1)
      refine ⟨p, ?_, ?_, fun _ => k1.trans s1⟩
      · rw [List.head?_append, h1]; rfl
      · rw [wS_step (t := b :: r) (j := 0) rfl (k1.trans s1) (k2.trans s2) hd2.2, List.eraseIdx_cons_zero, h2]
        show _ = xs.getD a.toNat 0 - (xs.getD b.toNat 0 - altS (vS xs r))
        omega

end Go.Proofs.Ytbaljgdepicigaa
