/-
  Plain lemmas on all pairings of players who have not met: no program.
-/
import Derived.Test.YtbaljgdepicigaaBase
import Derived.Test.YtbaljgdepicigaaMathA
import Derived.Test.YtbaljgdepicigaaMathD
import Derived.Test.YtbaljgdepicigaaMathB
import Derived.Test.YtbaljgdepicigaaMathU
import Derived.Test.YtbaljgdepicigaaMathS
namespace Go.Proofs.Ytbaljgdepicigaa
set_option linter.unusedVariables false

def frP (ps : List Int) (a : Int) : Bool := decide (ps.getD a.toNat 0 < 0)
/-- Have met. -/
def mtP (ms : List Int) (a b : Int) : Bool := decide (bitAt (ms.getD a.toNat 0) b.toNat = 1)
/-- All pairings that the program yields, from a state on. -/
def fillStep (ms ps : List Int) (a : Int) (next : List Int → List (List Int)) (b : Int) : List (List Int) :=
  if ¬ frP ps b = true ∨ mtP ms a b = true then [] else next ((ps.set a.toNat b).set b.toNat a)
def fillL (order ms : List Int) : Nat → List Int → List (List Int)
  | 0, _ => []
  | k + 1, ps => if idxF (frP ps) order < 0 then [ps] else
      (order.drop ((idxF (frP ps) order).toNat + 1)).flatMap (fillStep ms ps (order.getD (idxF (frP ps) order).toNat 0) (fillL order ms k))
/-- All pairings of the reference. -/
def allStep (ms left ps : List Int) (next : List Int → List Int → List (List Int)) (i : Nat) : List (List Int) :=
  if i = 0 ∨ mtP ms (left.getD 0 0) (left.getD i 0) = true then [] else next ((left.take i).drop 1 ++ left.drop (i + 1)) ((ps.set (left.getD 0 0).toNat (left.getD i 0)).set (left.getD i 0).toNat (left.getD 0 0))
def allL (ms : List Int) : Nat → List Int → List Int → List (List Int)
  | 0, _, _ => []
  | k + 1, left, ps => if left.length = 0 then [ps] else (List.range left.length).flatMap (allStep ms left ps (allL ms k))
/-- How many are free. -/
def nfree (ps : List Int) : Nat := ps.countP fun x => decide (x < 0)
theorem nfree_set {ps : List Int} {i : Nat} {x v : Int} (h : ps[i]? = some x) (hx : x < 0) (hv : 0 ≤ v) : nfree (ps.set i v) + 1 = nfree ps := by
  induction ps generalizing i with
  | nil => simp at h
  | cons y ps ih =>
    cases i with
    | zero =>
      simp at h; subst h
      have h0 : ¬ v < 0 := by omega
      simp [nfree, hx, h0]
    | succ i =>
      simp at h
      have := ih h
      simp only [nfree, List.set_cons_succ, List.countP_cons] at this ⊢
      omega
/-- An order of the numbers below n. -/
def ordOf (n : Nat) (order : List Int) : Prop := order.Nodup ∧ order.length = n ∧ (∀ x ∈ order, 0 ≤ x ∧ x < (n : Int)) ∧ ∀ i : Nat, i < n → (i : Int) ∈ order
/-- A part of a pairing. -/
structure partP (n : Nat) (ps : List Int) : Prop where
  len : ps.length = n
  low : ∀ i : Nat, i < n → ps.getD i 0 < 0 → ps.getD i 0 = -1
  ok : ∀ i : Nat, i < n → ¬ ps.getD i 0 < 0 → ps.getD i 0 < (n : Int) ∧ ps.getD i 0 ≠ (i : Int) ∧ ps.getD (ps.getD i 0).toNat 0 = (i : Int)
theorem frP_nat (ps : List Int) (i : Nat) : frP ps (i : Int) = decide (ps.getD i 0 < 0) := by simp [frP]
theorem getD_set2 {l : List Int} {i : Nat} (h : i < l.length) (v : Int) (j : Nat) : (l.set i v).getD j 0 = if i = j then v else l.getD j 0 := by
  rw [List.getD, List.getElem?_set]
  by_cases e : i = j
  · subst e; simp [h]
  · simp [e, List.getD]
theorem getD_set3 {l : List Int} {i k : Nat} (h : i < l.length) (hk : k < l.length) (u v : Int) (j : Nat) : ((l.set i u).set k v).getD j 0 = if k = j then v else if i = j then u else l.getD j 0 := by
  rw [getD_set2 (by simpa using hk), getD_set2 h]
/-- One pair more. -/
theorem partP.pair {n : Nat} {ps : List Int} (h : partP n ps) {a b : Nat} (ha : a < n) (hb : b < n) (hab : a ≠ b) (hfa : ps.getD a 0 < 0) (hfb : ps.getD b 0 < 0) : partP n ((ps.set a (b : Int)).set b (a : Int)) := by
  have hl := h.len
  refine ⟨by simp [hl], fun i hi hf => ?_, fun i hi hf => ?_⟩
  · rw [getD_set3 (by omega) (by omega)] at hf ⊢
    split at hf
    · omega
    · split at hf
      · omega
      · rename_i h1 h2; rw [if_neg h1, if_neg h2]; exact h.low i hi hf
  · rw [getD_set3 (by omega) (by omega)] at hf
    rw [getD_set3 (by omega) (by omega) _ _ i]
    by_cases e1 : b = i
    · rw [if_pos e1]
      refine ⟨by omega, by omega, ?_⟩
      rw [getD_set3 (by omega) (by omega), Int.toNat_natCast, if_neg (by omega), if_pos rfl]
      omega
    · rw [if_neg e1]
      by_cases e2 : a = i
      · rw [if_pos e2]
        refine ⟨by omega, by omega, ?_⟩
        rw [getD_set3 (by omega) (by omega), Int.toNat_natCast, if_pos rfl]
        omega
      · rw [if_neg e2]
        rw [if_neg e1, if_neg e2] at hf
        obtain ⟨h1, h2, h3⟩ := h.ok i hi hf
        refine ⟨h1, h2, ?_⟩
        rw [getD_set3 (by omega) (by omega), if_neg, if_neg, h3]
        · intro e; rw [← e] at h3; omega
        · intro e; rw [← e] at h3; omega
theorem nfree_pair {n : Nat} {ps : List Int} (hl : ps.length = n) {a b : Nat} (ha : a < n) (hb : b < n) (hab : a ≠ b) (hfa : ps.getD a 0 < 0) (hfb : ps.getD b 0 < 0) : nfree ((ps.set a (b : Int)).set b (a : Int)) + 2 = nfree ps := by
  have e1 : ps[a]? = some (ps.getD a 0) := by rw [List.getD, List.getElem?_eq_getElem (by omega)]; rfl
  have e2 : (ps.set a (b : Int))[b]? = some (ps.getD b 0) := by rw [List.getElem?_set, if_neg hab, List.getD, List.getElem?_eq_getElem (by omega)]; rfl
  have h1 := nfree_set (v := (b : Int)) e1 hfa (by omega)
  have h2 := nfree_set (v := (a : Int)) e2 hfb (by omega)
  omega
/-- A whole pairing that goes on from a part. -/
structure extP (n : Nat) (ms ps p : List Int) : Prop where
  ok : pairsOk n p
  ext : ∀ i : Nat, i < n → ¬ ps.getD i 0 < 0 → p.getD i 0 = ps.getD i 0
  new : ∀ i : Nat, i < n → ps.getD i 0 < 0 → ¬ bitAt (ms.getD i 0) (p.getD i 0).toNat = 1
/-- Where the first free one stands. -/
theorem idxF_at {α : Type} {p : α → Bool} {xs : List α} (h : ¬ idxF p xs < 0) : ∃ x, xs[(idxF p xs).toNat]? = some x ∧ p x = true ∧ ∀ y ∈ xs.take (idxF p xs).toNat, p y = false := by
  induction xs with
  | nil => simp [idxF] at h
  | cons x xs ih =>
    have hb := idxF_bound p xs
    by_cases hx : p x = true
    · have e : idxF p (x :: xs) = 0 := by simp [idxF, hx]
      rw [e]; exact ⟨x, rfl, hx, by simp⟩
    · have hx' : p x = false := by simpa using hx
      by_cases h0 : idxF p xs < 0
      · exfalso
        have : idxF p (x :: xs) = -1 := idxF_miss fun y hy => by
          rcases List.mem_cons.1 hy with rfl | hy
          · exact hx'
          · have h1 := mt idxF_ge.2 (by omega : ¬ 0 ≤ idxF p xs)
            cases hp : p y with
            | false => rfl
            | true => exact absurd ⟨y, hy, hp⟩ h1
        omega
      · obtain ⟨z, hz, hpz, hn⟩ := ih h0
        have e : idxF p (x :: xs) = (((idxF p xs).toNat + 1 : Nat) : Int) := idxF_hit (k := (idxF p xs).toNat + 1) (x := z) (fun y hy => by
          rw [List.take_succ_cons] at hy
          rcases List.mem_cons.1 hy with rfl | hy
          · exact hx'
          · exact hn y hy) (by simpa using hz) hpz
        rw [e, Int.toNat_natCast]
        refine ⟨z, by simpa using hz, hpz, fun y hy => ?_⟩
        rw [List.take_succ_cons] at hy
        rcases List.mem_cons.1 hy with rfl | hy
        · exact hx'
        · exact hn y hy
theorem idxF_no {α : Type} {p : α → Bool} {xs : List α} (h : idxF p xs < 0) : ∀ y ∈ xs, p y = false := by
  intro y hy
  cases hp : p y with
  | false => rfl
  | true => exact absurd (idxF_ge.2 ⟨y, hy, hp⟩) (by omega)
theorem split_at {α : Type} {xs : List α} {k : Nat} {x : α} (h : xs[k]? = some x) : xs = xs.take k ++ x :: xs.drop (k + 1) := by
  have hk := (List.getElem?_eq_some_iff.1 h).1
  have e : xs[k] = x := (List.getElem?_eq_some_iff.1 h).2
  conv => lhs; rw [← List.take_append_drop k xs, List.drop_eq_getElem_cons hk, e]
/-- The walk's view of one step: the first free one, a, and the ones behind it. -/
theorem fill_at {n : Nat} {order ps : List Int} (ho : ordOf n order) (hl : ps.length = n) (h : ¬ idxF (frP ps) order < 0) :
    ∃ a : Nat, a < n ∧ order[(idxF (frP ps) order).toNat]? = some (a : Int) ∧ ps.getD a 0 < 0 ∧ (∀ y ∈ order.take (idxF (frP ps) order).toNat, frP ps y = false) ∧ ¬ (a : Int) ∈ order.drop ((idxF (frP ps) order).toNat + 1) := by
  obtain ⟨x, hx, hp, hn⟩ := idxF_at h
  have hm := ho.2.2.1 x (List.mem_of_getElem? hx)
  obtain ⟨a, rfl⟩ : ∃ a : Nat, x = (a : Int) := ⟨x.toNat, by omega⟩
  refine ⟨a, by omega, hx, by simpa [frP] using hp, hn, fun hd => ?_⟩
  have hnd := ho.1
  rw [split_at hx] at hnd
  have := (List.nodup_cons.1 (List.nodup_append.1 hnd).2.1).1
  exact this hd
theorem fillL_succ {n : Nat} {order ms ps : List Int} {k : Nat} {a at_ : Nat} (he : idxF (frP ps) order = (at_ : Int)) (ha : order[at_]? = some (a : Int)) :
    fillL order ms (k + 1) ps = (order.drop (at_ + 1)).flatMap (fillStep ms ps (a : Int) (fillL order ms k)) := by
  simp only [fillL, he, Int.toNat_natCast]
  rw [if_neg (by omega), List.getD, ha]; rfl
theorem mem_fillStep {ms ps : List Int} {a : Int} {next : List Int → List (List Int)} {b : Int} {p : List Int} :
    p ∈ fillStep ms ps a next b ↔ frP ps b = true ∧ ¬ mtP ms a b = true ∧ p ∈ next ((ps.set a.toNat b).set b.toNat a) := by
  unfold fillStep
  by_cases h1 : frP ps b = true <;> by_cases h2 : mtP ms a b = true <;> simp [h1, h2]
theorem mem_fillL {n : Nat} {order ms : List Int} (ho : ordOf n order) (hs : ∀ a b : Nat, a < n → b < n → bitAt (ms.getD a 0) b = bitAt (ms.getD b 0) a) : ∀ (k : Nat) (ps : List Int), partP n ps → nfree ps < k → ∀ p, p ∈ fillL order ms k ps ↔ extP n ms ps p := by
  intro k
  induction k with
  | zero => intro ps _ h; omega
  | succ k ih =>
    intro ps hp hf p
    have hl := hp.len
    by_cases h0 : idxF (frP ps) order < 0
    · have hall : ∀ i : Nat, i < n → ¬ ps.getD i 0 < 0 := fun i hi hlt => by
        have := idxF_no h0 (i : Int) (ho.2.2.2 i hi)
        rw [frP_nat] at this
        exact absurd hlt (by simpa using this)
      simp only [fillL, if_pos h0, List.mem_singleton]
      constructor
      · rintro rfl
        refine ⟨⟨hl, fun a ha => ?_⟩, fun _ _ _ => rfl, fun i hi hlt => absurd hlt (hall i hi)⟩
        have h1 := hall a (by omega)
        obtain ⟨h2, h3, h4⟩ := hp.ok a (by omega) h1
        exact ⟨⟨by omega, by omega⟩, h3, h4⟩
      · intro he
        refine List.ext_getElem? fun i => ?_
        by_cases hi : i < n
        · have := he.ext i hi (hall i hi)
          have hpl := he.ok.1
          rw [List.getD, List.getD, List.getElem?_eq_getElem (by omega), List.getElem?_eq_getElem (by omega)] at this
          rw [List.getElem?_eq_getElem (by omega), List.getElem?_eq_getElem (by omega)]
          simpa using this
        · rw [List.getElem?_eq_none (by rw [he.ok.1]; omega), List.getElem?_eq_none (by omega)]
    · obtain ⟨a, ha, hat, hfa, hbefore, hnin⟩ := fill_at ho hl h0
      have hb := idxF_bound (frP ps) order
      obtain ⟨q, hq⟩ : ∃ q : Nat, idxF (frP ps) order = (q : Int) := ⟨(idxF (frP ps) order).toNat, by omega⟩
      rw [hq, Int.toNat_natCast] at hat hbefore hnin
      rw [fillL_succ (n := n) hq hat]
      simp only [List.mem_flatMap, mem_fillStep]
      constructor
      · rintro ⟨b, hbm, hfb, hmb, hmem⟩
        have hbo := ho.2.2.1 b (List.mem_of_mem_drop hbm)
        obtain ⟨b, rfl⟩ : ∃ b' : Nat, b = (b' : Int) := ⟨b.toNat, by omega⟩
        rw [frP_nat] at hfb
        have hfb' : ps.getD b 0 < 0 := by simpa using hfb
        have hab : a ≠ b := fun e => hnin (e ▸ hbm)
        rw [Int.toNat_natCast, Int.toNat_natCast] at hmem
        have hmb' : ¬ bitAt (ms.getD a 0) b = 1 := by simpa [mtP] using hmb
        have hnf := nfree_pair hl ha (by omega) hab hfa hfb'
        have he := (ih _ (hp.pair ha (by omega) hab hfa hfb') (by omega) p).1 hmem
        have ea : p.getD a 0 = (b : Int) := by rw [he.ext a ha (by rw [getD_set3 (by omega) (by omega), if_neg (by omega), if_pos rfl]; omega), getD_set3 (by omega) (by omega), if_neg (by omega), if_pos rfl]
        have eb : p.getD b 0 = (a : Int) := by rw [he.ext b (by omega) (by rw [getD_set3 (by omega) (by omega), if_pos rfl]; omega), getD_set3 (by omega) (by omega), if_pos rfl]
        refine ⟨he.ok, fun i hi hnf => ?_, fun i hi hfi => ?_⟩
        · have e1 : b ≠ i := fun e => hnf (e ▸ hfb')
          have e2 : a ≠ i := fun e => hnf (e ▸ hfa)
          rw [he.ext i hi (by rw [getD_set3 (by omega) (by omega), if_neg e1, if_neg e2]; exact hnf), getD_set3 (by omega) (by omega), if_neg e1, if_neg e2]
        · by_cases e1 : b = i
          · subst e1; rw [eb, Int.toNat_natCast, ← hs a b ha hi]; exact hmb'
          · by_cases e2 : a = i
            · subst e2; rw [ea, Int.toNat_natCast]; exact hmb'
            · exact he.new i hi (by rw [getD_set3 (by omega) (by omega), if_neg e1, if_neg e2]; exact hfi)
      · intro he
        have hok := he.ok.2 a (by rw [he.ok.1]; exact ha)
        obtain ⟨b, hb'⟩ : ∃ b : Nat, p.getD a 0 = (b : Int) := ⟨(p.getD a 0).toNat, by omega⟩
        rw [hb', Int.toNat_natCast] at hok
        have hbn : b < n := by omega
        have hab : a ≠ b := by omega
        have hfb : ps.getD b 0 < 0 := by
          rcases Int.lt_or_le (ps.getD b 0) 0 with e | e
          · exact e
          · exfalso
            have h1 := hp.ok b hbn (by omega)
            have h2 := he.ext b hbn (by omega)
            rw [hok.2.2] at h2
            rw [← h2, Int.toNat_natCast] at h1
            omega
        have hnf := nfree_pair hl ha hbn hab hfa hfb
        have hbd : (b : Int) ∈ order.drop (q + 1) := by
          have hm := ho.2.2.2 b hbn
          rw [split_at hat] at hm
          rcases List.mem_append.1 hm with hm | hm
          · have := hbefore _ hm
            rw [frP_nat] at this
            exact absurd hfb (by simpa using this)
          · rcases List.mem_cons.1 hm with hm | hm
            · omega
            · exact hm
        refine ⟨(b : Int), hbd, by rw [frP_nat]; simpa using hfb, ?_, ?_⟩
        · have := he.new a ha hfa
          rw [hb', Int.toNat_natCast] at this
          simpa [mtP] using this
        · rw [Int.toNat_natCast, Int.toNat_natCast]
          refine (ih _ (hp.pair ha hbn hab hfa hfb) (by omega) p).2 ⟨he.ok, fun i hi h => ?_, fun i hi h => ?_⟩
          · rw [getD_set3 (by omega) (by omega)] at h ⊢
            by_cases e1 : b = i
            · subst e1; rw [if_pos rfl]; exact hok.2.2
            · by_cases e2 : a = i
              · subst e2; rw [if_neg e1, if_pos rfl]; exact hb'
              · rw [if_neg e1, if_neg e2] at h ⊢; exact he.ext i hi h
          · rw [getD_set3 (by omega) (by omega)] at h
            split at h
            · omega
            · split at h
              · omega
              · exact he.new i hi h
theorem nodup_flatMap_of {α β : Type} {l : List α} {f : α → List β} (hl : l.Nodup) (h1 : ∀ x ∈ l, (f x).Nodup) (h2 : ∀ x ∈ l, ∀ y ∈ l, x ≠ y → ∀ z, z ∈ f x → ¬ z ∈ f y) : (l.flatMap f).Nodup := by
  induction l with
  | nil => simp
  | cons x l ih =>
    rw [List.flatMap_cons, List.nodup_append]
    rw [List.nodup_cons] at hl
    refine ⟨h1 x (by simp), ih hl.2 (fun y hy => h1 y (by simp [hy])) (fun y hy z hz => h2 y (by simp [hy]) z (by simp [hz])), fun z hz u hu e => ?_⟩
    subst e
    obtain ⟨y, hy, hzy⟩ := List.mem_flatMap.1 hu
    exact h2 x (by simp) y (by simp [hy]) (fun e => hl.1 (e ▸ hy)) z hz hzy
theorem nodup_fillL {n : Nat} {order ms : List Int} (ho : ordOf n order) (hs : ∀ a b : Nat, a < n → b < n → bitAt (ms.getD a 0) b = bitAt (ms.getD b 0) a) : ∀ (k : Nat) (ps : List Int), partP n ps → nfree ps < k → (fillL order ms k ps).Nodup := by
  intro k
  induction k with
  | zero => intro ps _ h; omega
  | succ k ih =>
    intro ps hp hf
    have hl := hp.len
    by_cases h0 : idxF (frP ps) order < 0
    · simp [fillL, if_pos h0]
    · obtain ⟨a, ha, hat, hfa, hbefore, hnin⟩ := fill_at ho hl h0
      obtain ⟨q, hq⟩ : ∃ q : Nat, idxF (frP ps) order = (q : Int) := ⟨(idxF (frP ps) order).toNat, by omega⟩
      rw [hq, Int.toNat_natCast] at hat hbefore hnin
      rw [fillL_succ (n := n) hq hat]
      have key : ∀ b ∈ order.drop (q + 1), frP ps b = true → ∃ b' : Nat, b = (b' : Int) ∧ b' < n ∧ a ≠ b' ∧ ps.getD b' 0 < 0 := fun b hb hfb => by
        have hbo := ho.2.2.1 b (List.mem_of_mem_drop hb)
        obtain ⟨b, rfl⟩ : ∃ b' : Nat, b = (b' : Int) := ⟨b.toNat, by omega⟩
        rw [frP_nat] at hfb
        exact ⟨b, rfl, by omega, fun e => hnin (e ▸ hb), by simpa using hfb⟩
      refine nodup_flatMap_of (ho.1.sublist (List.drop_sublist _ _)) (fun b hb => ?_) (fun b hb c hc hne p hpb hpc => ?_)
      · unfold fillStep
        split
        · simp
        · rename_i hns
          have hfb : frP ps b = true := by
            cases h : frP ps b with
            | true => rfl
            | false => exact absurd (.inl (by simp [h])) hns
          obtain ⟨b, rfl, hbn, hab, hfb'⟩ := key b hb hfb
          rw [Int.toNat_natCast, Int.toNat_natCast]
          have hnf := nfree_pair hl ha hbn hab hfa hfb'
          exact ih _ (hp.pair ha hbn hab hfa hfb') (by omega)
      · have pa : ∀ b ∈ order.drop (q + 1), p ∈ fillStep ms ps (a : Int) (fillL order ms k) b → p.getD a 0 = b := fun b hb hpb => by
          obtain ⟨hfb, _, hm⟩ := mem_fillStep.1 hpb
          obtain ⟨b, rfl, hbn, hab, hfb'⟩ := key b hb hfb
          rw [Int.toNat_natCast, Int.toNat_natCast] at hm
          have hnf := nfree_pair hl ha hbn hab hfa hfb'
          have he := (mem_fillL ho hs k _ (hp.pair ha hbn hab hfa hfb') (by omega) p).1 hm
          rw [he.ext a ha (by rw [getD_set3 (by omega) (by omega), if_neg (by omega), if_pos rfl]; omega), getD_set3 (by omega) (by omega), if_neg (by omega), if_pos rfl]
        exact hne ((pa b hb hpb).symm.trans (pa c hc hpc))
theorem fill_perm {n : Nat} {o1 o2 ms : List Int} (h1 : ordOf n o1) (h2 : ordOf n o2) (hs : ∀ a b : Nat, a < n → b < n → bitAt (ms.getD a 0) b = bitAt (ms.getD b 0) a) {k : Nat} {ps : List Int} (hp : partP n ps) (hf : nfree ps < k) :
    (fillL o1 ms k ps).Perm (fillL o2 ms k ps) :=
  (List.perm_ext_iff_of_nodup (nodup_fillL h1 hs k ps hp hf) (nodup_fillL h2 hs k ps hp hf)).2 fun p => by rw [mem_fillL h1 hs k ps hp hf, mem_fillL h2 hs k ps hp hf]

/-! ### The reference goes the same way -/
theorem range_flat {α β : Type} (l : List α) (d : α) (g : α → List β) : (List.range l.length).flatMap (fun i => g (l.getD i d)) = l.flatMap g := by
  have : (List.range l.length).map (fun i => l.getD i d) = l := by
    refine List.ext_getElem? fun i => ?_
    rw [List.getElem?_map]
    by_cases hi : i < l.length
    · simp [hi]
    · rw [List.getElem?_eq_none (by simp; omega), List.getElem?_eq_none (by omega)]; rfl
  conv => rhs; rw [← this]
  rw [List.flatMap_map]
theorem flatMap_congr_of {α β : Type} {l : List α} {f g : α → List β} (h : ∀ x ∈ l, f x = g x) : l.flatMap f = l.flatMap g := by
  induction l with
  | nil => rfl
  | cons x l ih => rw [List.flatMap_cons, List.flatMap_cons, h x (by simp), ih fun y hy => h y (by simp [hy])]
theorem flatMap_filter_of {α β : Type} (l : List α) (p : α → Bool) (g : α → List β) (h : ∀ x ∈ l, p x = false → g x = []) : (l.filter p).flatMap g = l.flatMap g := by
  induction l with
  | nil => rfl
  | cons x l ih =>
    rw [List.flatMap_cons, List.filter_cons]
    have ih := ih fun y hy => h y (by simp [hy])
    cases hx : p x with
    | true => simp [ih]
    | false => rw [h x (by simp) hx]; simpa using ih
theorem erase_at {l : List Int} (hn : l.Nodup) {i : Nat} {x : Int} (h : l[i]? = some x) : l.take i ++ l.drop (i + 1) = l.filter (fun y => decide (y ≠ x)) := by
  have e := split_at h
  rw [e] at hn
  have h2 := List.nodup_append.1 hn
  have h3 := List.nodup_cons.1 h2.2.1
  conv => rhs; rw [e]
  rw [List.filter_append, List.filter_cons]
  simp only [ne_eq, not_true_eq_false, decide_false, Bool.false_eq_true, if_false]
  congr 1
  · symm; rw [List.filter_eq_self]; intro y hy; exact decide_eq_true (fun e => h2.2.2 y hy x (by simp) e)
  · symm; rw [List.filter_eq_self]; intro y hy; exact decide_eq_true (fun e => h3.1 (by rw [← e]; exact hy))
theorem allL_eq {n : Nat} {order ms : List Int} (ho : ordOf n order) : ∀ (k : Nat) (ps qs : List Int), partP n ps → nfree ps < k → qs.length = n → (∀ i : Nat, i < n → ¬ ps.getD i 0 < 0 → qs.getD i 0 = ps.getD i 0) →
    allL ms k (order.filter (frP ps)) qs = fillL order ms k ps := by
  intro k
  induction k with
  | zero => intro ps qs _ h; omega
  | succ k ih =>
    intro ps qs hp hf hql hqs
    have hl := hp.len
    by_cases h0 : idxF (frP ps) order < 0
    · have hno := idxF_no h0
      have hnil : order.filter (frP ps) = [] := by rw [List.filter_eq_nil_iff]; intro a ha; simp [hno a ha]
      rw [hnil]
      simp only [allL, fillL, if_pos h0, List.length_nil, if_true]
      congr 1
      refine List.ext_getElem? fun i => ?_
      by_cases hi : i < n
      · have h1 : ¬ ps.getD i 0 < 0 := fun hlt => by
          have := hno (i : Int) (ho.2.2.2 i hi)
          rw [frP_nat] at this
          exact absurd hlt (by simpa using this)
        have := hqs i hi h1
        rw [List.getD, List.getD, List.getElem?_eq_getElem (by omega), List.getElem?_eq_getElem (by omega)] at this
        rw [List.getElem?_eq_getElem (by omega), List.getElem?_eq_getElem (by omega)]
        simpa using this
      · rw [List.getElem?_eq_none (by omega), List.getElem?_eq_none (by omega)]
    · obtain ⟨a, ha, hat, hfa, hbefore, hnin⟩ := fill_at ho hl h0
      obtain ⟨q, hq⟩ : ∃ q : Nat, idxF (frP ps) order = (q : Int) := ⟨(idxF (frP ps) order).toNat, by omega⟩
      rw [hq, Int.toNat_natCast] at hat hbefore hnin
      rw [fillL_succ (n := n) hq hat]
      have hleft : order.filter (frP ps) = (a : Int) :: (order.drop (q + 1)).filter (frP ps) := by
        conv => lhs; rw [split_at hat]
        rw [List.filter_append, List.filter_cons]
        have e1 : (order.take q).filter (frP ps) = [] := by rw [List.filter_eq_nil_iff]; intro y hy; simp [hbefore y hy]
        rw [e1, frP_nat, if_pos (by simpa using hfa), List.nil_append]
      have hnd : ((order.drop (q + 1)).filter (frP ps)).Nodup := (ho.1.sublist (List.drop_sublist _ _)).sublist List.filter_sublist
      rw [hleft]
      simp only [allL, List.length_cons]
      rw [if_neg (by omega), List.range_succ_eq_map, List.flatMap_cons, List.flatMap_map]
      have e0 : allStep ms ((a : Int) :: (order.drop (q + 1)).filter (frP ps)) qs (allL ms k) 0 = [] := by simp [allStep]
      rw [e0, List.nil_append, ← flatMap_filter_of (order.drop (q + 1)) (frP ps) _ (fun x _ hx => by unfold fillStep; rw [if_pos (.inl (by simp [hx]))]), ← range_flat ((order.drop (q + 1)).filter (frP ps)) 0 (fillStep ms ps (a : Int) (fillL order ms k))]
      refine flatMap_congr_of fun i hi => ?_
      have hil : i < ((order.drop (q + 1)).filter (frP ps)).length := List.mem_range.1 hi
      obtain ⟨b, hb⟩ : ∃ b, ((order.drop (q + 1)).filter (frP ps))[i]? = some b := ⟨_, List.getElem?_eq_getElem hil⟩
      have hbd : ((order.drop (q + 1)).filter (frP ps)).getD i 0 = b := by rw [List.getD, hb]; rfl
      have hbm := List.mem_filter.1 (List.mem_of_getElem? hb)
      have hbo := ho.2.2.1 b (List.mem_of_mem_drop hbm.1)
      obtain ⟨b, rfl⟩ : ∃ b' : Nat, b = (b' : Int) := ⟨b.toNat, by omega⟩
      have hfb : ps.getD b 0 < 0 := by have := hbm.2; rw [frP_nat] at this; simpa using this
      have hab : a ≠ b := fun e => hnin (e ▸ hbm.1)
      have hnf := nfree_pair hl ha (by omega) hab hfa hfb
      have hpp := hp.pair ha (by omega) hab hfa hfb
      rw [hbd]
      unfold allStep fillStep
      simp only [List.getD_cons_zero, List.getD_cons_succ, Nat.succ_eq_add_one, hbd]
      rw [hbm.2]
      simp only [not_true_eq_false, false_or, Nat.succ_ne_zero]
      split
      · rfl
      · rw [Int.toNat_natCast, Int.toNat_natCast]
        have e2 : (((a : Int) :: (order.drop (q + 1)).filter (frP ps)).take (i + 1)).drop 1 ++ ((a : Int) :: (order.drop (q + 1)).filter (frP ps)).drop (i + 1 + 1) = order.filter (frP ((ps.set a (b : Int)).set b (a : Int))) := by
          rw [List.take_succ_cons, List.drop_succ_cons, List.drop_zero, List.drop_succ_cons, erase_at hnd hb]
          have e3 : ((a : Int) :: (order.drop (q + 1)).filter (frP ps)).filter (fun y => decide (y ≠ (a : Int)) && decide (y ≠ (b : Int))) = ((order.drop (q + 1)).filter (frP ps)).filter (fun y => decide (y ≠ (b : Int))) := by
            rw [List.filter_cons]
            simp only [ne_eq, not_true_eq_false, decide_false, Bool.false_and, Bool.false_eq_true, if_false]
            refine List.filter_congr fun y hy => ?_
            have : y ≠ (a : Int) := fun e => hnin (e ▸ (List.mem_filter.1 hy).1)
            simp [this]
          rw [← e3, ← hleft, List.filter_filter]
          refine List.filter_congr fun y hy => ?_
          have hyo := ho.2.2.1 y hy
          obtain ⟨y, rfl⟩ : ∃ y' : Nat, y = (y' : Int) := ⟨y.toNat, by omega⟩
          rw [frP_nat, frP_nat, getD_set3 (by omega) (by omega)]
          by_cases e1 : b = y
          · subst e1; simp
          · by_cases e2 : a = y
            · subst e2; simp [e1]
            · have h1 : ¬ (y : Int) = (a : Int) := by omega
              have h2 : ¬ (y : Int) = (b : Int) := by omega
              simp [e1, e2, h1, h2]
        rw [e2]
        refine ih _ _ hpp (by omega) (by simp [hql]) fun i hi h => ?_
        rw [getD_set3 (by omega) (by omega)] at h ⊢
        rw [getD_set3 (by omega) (by omega)]
        split
        · rfl
        · split
          · rfl
          · rename_i e1 e2; rw [if_neg e1, if_neg e2] at h; exact hqs i hi h

/-! ### The least of some numbers -/
def leastS (f : List Int → Int) (best : Int) (p : List Int) : Int := if best < 0 ∨ f p < best then f p else best
def leastF (f : List Int → Int) (l : List (List Int)) : Int := l.foldl (leastS f) (-1)
theorem leastF_snoc (f : List Int → Int) (l : List (List Int)) (p : List Int) : leastF f (l ++ [p]) = if leastF f l < 0 ∨ f p < leastF f l then f p else leastF f l := by
  unfold leastF
  rw [List.foldl_append]
  rfl
theorem leastF_is {f : List Int → Int} : ∀ (l : List (List Int)), (∀ p ∈ l, 0 ≤ f p) → (l = [] ∧ leastF f l = -1) ∨ ((∃ p ∈ l, f p = leastF f l) ∧ ∀ p ∈ l, leastF f l ≤ f p) := by
  intro l
  obtain ⟨m, hm⟩ : ∃ m, m = l.reverse := ⟨_, rfl⟩
  obtain rfl : l = m.reverse := by rw [hm, List.reverse_reverse]
  clear hm
  induction m with
  | nil => intro _; exact .inl ⟨rfl, rfl⟩
  | cons p m ih =>
    rw [List.reverse_cons]
    generalize m.reverse = l at *
    intro h
    have hp := h p (by simp)
    rw [leastF_snoc]
    rcases ih fun q hq => h q (by simp [hq]) with ⟨rfl, e⟩ | ⟨⟨q, hq, e⟩, hle⟩
    · rw [e]; exact .inr ⟨⟨p, by simp, by simp⟩, by simp⟩
    · have h0 : 0 ≤ leastF f l := by rw [← e]; exact h q (by simp [hq])
      by_cases hc : f p < leastF f l
      · rw [if_pos (.inr hc)]
        refine .inr ⟨⟨p, by simp, rfl⟩, fun r hr => ?_⟩
        rcases List.mem_append.1 hr with hr | hr
        · have := hle r hr; omega
        · simp at hr; rw [hr]; omega
      · rw [if_neg (by omega)]
        refine .inr ⟨⟨q, by simp [hq], e⟩, fun r hr => ?_⟩
        rcases List.mem_append.1 hr with hr | hr
        · exact hle r hr
        · simp at hr; rw [hr]; omega
theorem leastF_perm {f g : List Int → Int} {l m : List (List Int)} (hp : l.Perm m) (h : ∀ p ∈ l, 0 ≤ f p) (hfg : ∀ p ∈ l, f p = g p) : leastF f l = leastF g m := by
  have hm : ∀ p ∈ m, 0 ≤ g p := fun p hq => by rw [← hfg p (hp.mem_iff.2 hq)]; exact h p (hp.mem_iff.2 hq)
  rcases leastF_is l h with ⟨rfl, e⟩ | ⟨⟨p, hpl, e⟩, hle⟩
  · rw [e]; have : m = [] := hp.symm.eq_nil; subst this; rfl
  · rcases leastF_is m hm with ⟨rfl, e2⟩ | ⟨⟨q, hq, e2⟩, hle2⟩
    · have : l = [] := hp.eq_nil; subst this; cases hpl
    · have h1 := hle q (hp.mem_iff.2 hq)
      have h2 := hle2 p (hp.mem_iff.1 hpl)
      rw [hfg q (hp.mem_iff.2 hq)] at h1
      rw [← hfg p hpl] at h2
      omega
theorem partP_start (n : Nat) : partP n (List.replicate n (-1)) := ⟨by simp, fun i hi _ => by simp [List.getD, hi], fun i hi h => absurd (show (List.replicate n (-1 : Int)).getD i 0 < 0 by simp [List.getD, hi]) h⟩
theorem nfree_start (n : Nat) : nfree (List.replicate n (-1)) < n + 1 := by
  have := List.countP_le_length (p := fun x : Int => decide (x < 0)) (l := List.replicate n (-1))
  simp only [List.length_replicate] at this
  unfold nfree
  omega

end Go.Proofs.Ytbaljgdepicigaa
