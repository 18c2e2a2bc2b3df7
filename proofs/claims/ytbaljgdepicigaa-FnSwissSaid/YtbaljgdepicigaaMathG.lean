/-
  Plain lemmas on the days of games: chains: no program.
-/
import Derived.Test.YtbaljgdepicigaaBase
import Derived.Test.YtbaljgdepicigaaMathA
import Derived.Test.YtbaljgdepicigaaMathD
namespace Go.Proofs.Ytbaljgdepicigaa
set_option linter.unusedVariables false

/-! ### Boxes -/
theorem box_le : ∀ (n : Nat) (l : List Nat), l.Nodup → (∀ x ∈ l, x < n) → l.length ≤ n := by
  intro n
  induction n with
  | zero => intro l _ h; cases l with | nil => simp | cons x r => have := h x (by simp); omega
  | succ n ih =>
    intro l hn h
    by_cases hm : n ∈ l
    · have h1 := ih (l.erase n) (hn.erase n) fun x hx => by
        have h2 := (List.Nodup.mem_erase_iff hn).1 hx
        have := h x h2.2
        omega
      have := List.length_erase_of_mem hm
      omega
    · have := ih l hn fun x hx => by
        have h2 := h x hx
        have : x ≠ n := fun e => hm (e ▸ hx)
        omega
      omega
theorem box_sub : ∀ (m l : List Nat), l.Nodup → (∀ x ∈ l, x ∈ m) → l.length ≤ m.length := by
  intro m
  induction m with
  | nil => intro l _ h; cases l with | nil => simp | cons x r => have := h x (by simp); cases this
  | cons y m ih =>
    intro l hn h
    have h1 := ih (l.erase y) (hn.erase y) fun x hx => by
      have h2 := (List.Nodup.mem_erase_iff hn).1 hx
      rcases List.mem_cons.1 (h x h2.2) with e | e
      · exact absurd e h2.1
      · exact e
    have h2 := List.length_erase_le (a := y) (l := l)
    by_cases hm : y ∈ l
    · have := List.length_erase_of_mem hm
      simp; omega
    · rw [List.erase_of_not_mem hm] at h1
      simp; omega
theorem nodup_map_range (f : Nat → Nat) : ∀ n : Nat, (∀ i, i < n → ∀ j, j < i → f i ≠ f j) → ((List.range n).map f).Nodup := by
  intro n
  induction n with
  | zero => simp
  | succ n ih =>
    intro h
    rw [List.range_succ, List.map_append, List.nodup_append]
    refine ⟨ih fun i hi => h i (by omega), by simp, ?_⟩
    intro a ha b hb e
    simp at ha hb
    obtain ⟨j, hj, rfl⟩ := ha
    exact h n (by omega) j hj (by rw [← hb, e])
/-- The first number below n at which p holds, or -1. -/
def firstN (p : Nat → Bool) (n : Nat) : Int := idxF p (List.range n)
theorem firstN_bound (p : Nat → Bool) (n : Nat) : -1 ≤ firstN p n ∧ firstN p n < n := by
  have := idxF_bound p (List.range n); simpa [firstN] using this
theorem firstN_hit {p : Nat → Bool} {n k : Nat} (hk : k < n) (hn : ∀ j, j < k → p j = false) (hp : p k = true) : firstN p n = k := by
  refine idxF_hit (x := k) (fun y hy => ?_) (by simp [hk]) hp
  rw [List.take_range] at hy
  simp at hy
  exact hn y (by omega)
theorem firstN_miss {p : Nat → Bool} {n : Nat} (hn : ∀ j, j < n → p j = false) : firstN p n = -1 := idxF_miss fun y hy => hn y (by simpa using hy)
theorem firstN_get {p : Nat → Bool} {n : Nat} (h : 0 ≤ firstN p n) : p (firstN p n).toNat = true ∧ (firstN p n).toNat < n ∧ ∀ j, j < (firstN p n).toNat → p j = false := by
  have ex : ∃ k, k < n ∧ p k = true := by
    obtain ⟨x, hx, hp⟩ := idxF_ge.1 h
    exact ⟨x, by simpa using hx, hp⟩
  -- the least one
  have key : ∀ m : Nat, (∃ k, k < m ∧ p k = true) → ∃ k, k < m ∧ p k = true ∧ ∀ j, j < k → p j = false := by
    intro m
    induction m with
    | zero => rintro ⟨k, hk, _⟩; omega
    | succ m ih =>
      rintro ⟨k, hk, hp⟩
      by_cases hh : ∃ k, k < m ∧ p k = true
      · obtain ⟨k', h1, h2, h3⟩ := ih hh
        exact ⟨k', by omega, h2, h3⟩
      · have hno : ∀ j, j < m → p j = false := fun j hj => by
          cases e : p j with
          | false => rfl
          | true => exact absurd ⟨j, hj, e⟩ hh
        refine ⟨k, by omega, hp, fun j hj => hno j (by omega)⟩
  obtain ⟨k, hk, hp, hno⟩ := key n ex
  rw [firstN_hit hk hno hp]
  simp only [Int.toNat_natCast]
  exact ⟨hp, hk, hno⟩
theorem firstN_ex {p : Nat → Bool} {n k : Nat} (hk : k < n) (hp : p k = true) : 0 ≤ firstN p n := idxF_ge.2 ⟨k, by simpa using hk, hp⟩

/-! ### Games on days -/
/-- The team at a side of game i. -/
def teamAt (rows : List (List Int)) (i s : Nat) : Int := (rows.getD i []).getD s 0
def plays (rows : List (List Int)) (days : List Int) (s : Nat) (t d : Int) (i : Nat) : Bool := decide (days.getD i 0 = d ∧ teamAt rows i s = t)
/-- The game of a team of a side on a day among those that have days. -/
def fnd (rows : List (List Int)) (days : List Int) (s : Nat) (t d : Int) : Int := firstN (plays rows days s t d) days.length
theorem fnd_bound (rows : List (List Int)) (days : List Int) (s : Nat) (t d : Int) : -1 ≤ fnd rows days s t d ∧ fnd rows days s t d < days.length := firstN_bound _ _
theorem fnd_get {rows : List (List Int)} {days : List Int} {s : Nat} {t d : Int} (h : 0 ≤ fnd rows days s t d) :
    days.getD (fnd rows days s t d).toNat 0 = d ∧ teamAt rows (fnd rows days s t d).toNat s = t ∧ (fnd rows days s t d).toNat < days.length := by
  have := firstN_get h
  unfold plays at this
  simp only [decide_eq_true_eq] at this
  exact ⟨this.1.1, this.1.2, this.2.1⟩
theorem fnd_ex {rows : List (List Int)} {days : List Int} {s : Nat} {t d : Int} {i : Nat} (hi : i < days.length) (h1 : days.getD i 0 = d) (h2 : teamAt rows i s = t) : 0 ≤ fnd rows days s t d :=
  firstN_ex hi (by unfold plays; rw [decide_eq_true_eq]; exact ⟨h1, h2⟩)
/-- The first day without a game of a team. -/
def fre (rows : List (List Int)) (days : List Int) (s : Nat) (t : Int) : Int := firstN (fun d => decide (fnd rows days s t d < 0)) (days.length + 1)
/-- How many games a team has among those that have days. -/
def hasG (rows : List (List Int)) (n s : Nat) (t : Int) : Nat := (List.range n).countP fun i => decide (teamAt rows i s = t)
theorem hasG_le (rows : List (List Int)) (n s : Nat) (t : Int) : hasG rows n s t ≤ n := by have := List.countP_le_length (p := fun i => decide (teamAt rows i s = t)) (l := List.range n); simpa [hasG] using this
theorem full_le {rows : List (List Int)} {days : List Int} {s : Nat} {t : Int} {m : Nat} (h : ∀ d : Nat, d < m → 0 ≤ fnd rows days s t d) : m ≤ hasG rows days.length s t := by
  have hn : ((List.range m).map fun d : Nat => (fnd rows days s t d).toNat).Nodup := by
    refine nodup_map_range _ m fun i hi j hj e => ?_
    have h1 := (fnd_get (h i hi)).1
    have h2 := (fnd_get (h j (by omega))).1
    rw [show (fnd rows days s t (i : Int)).toNat = (fnd rows days s t (j : Int)).toNat from e, h2] at h1
    omega
  have := box_sub ((List.range days.length).filter fun i => decide (teamAt rows i s = t)) _ hn fun x hx => by
    simp at hx
    obtain ⟨d, hd, rfl⟩ := hx
    have h1 := fnd_get (h d hd)
    simp only [List.mem_filter, List.mem_range, decide_eq_true_eq]
    exact ⟨h1.2.2, h1.2.1⟩
  rw [List.length_map, List.length_range] at this
  unfold hasG
  rw [List.countP_eq_length_filter]
  exact this
theorem fre_ok (rows : List (List Int)) (days : List Int) (s : Nat) (t : Int) : ∃ d : Nat, fre rows days s t = d ∧ d ≤ hasG rows days.length s t ∧ fnd rows days s t d < 0 ∧ ∀ j : Nat, j < d → 0 ≤ fnd rows days s t j := by
  have h0 : 0 ≤ fre rows days s t := by
    by_cases hh : ∃ d, d < days.length + 1 ∧ fnd rows days s t d < 0
    · obtain ⟨d, hd, hf⟩ := hh
      refine firstN_ex (k := d) hd ?_
      simpa using hf
    · exfalso
      have h1 : ∀ d : Nat, d < days.length + 1 → 0 ≤ fnd rows days s t d := fun d hd => by
        rcases Int.lt_or_le (fnd rows days s t d) 0 with e | e
        · exact absurd ⟨d, hd, e⟩ hh
        · exact e
      have h2 := full_le h1
      have h3 := hasG_le rows days.length s t
      omega
  obtain ⟨h1, h2, h3⟩ := firstN_get h0
  have h4 : ∀ j : Nat, j < (fre rows days s t).toNat → 0 ≤ fnd rows days s t j := fun j hj => by
    have := h3 j hj
    simpa using this
  exact ⟨(fre rows days s t).toNat, by omega, full_le h4, of_decide_eq_true h1, h4⟩

/-! ### Chains -/
section
variable (rows : List (List Int)) (days : List Int) (x y g1 : Int)
def sd (j : Nat) : Nat := if j % 2 = 0 then 1 else 0
def dy (j : Nat) : Int := if j % 2 = 0 then x else y
/-- The j-th team of the chain, and its game. -/
def tm : Nat → Int
  | 0 => g1
  | j + 1 => teamAt rows (fnd rows days (sd j) (tm j) (dy x y j)).toNat (sd (j + 1))
def gm (j : Nat) : Int := fnd rows days (sd j) (tm rows days x y g1 j) (dy x y j)
end
/-- No two games of a team on a day. -/
def proper (rows : List (List Int)) (days : List Int) : Prop :=
  ∀ i, i < days.length → ∀ k, k < days.length → days.getD i 0 = days.getD k 0 → ∀ s, s < 2 → teamAt rows i s = teamAt rows k s → i = k
section
variable {rows : List (List Int)} {days : List Int} {x y g1 : Int}
theorem sd_lt (j : Nat) : sd j < 2 := by unfold sd; split <;> omega
theorem sd_ne (j : Nat) : sd (j + 1) = 1 - sd j := by unfold sd; split <;> split <;> omega
theorem dy_or (j : Nat) : dy x y j = x ∨ dy x y j = y := by unfold dy; split <;> simp
theorem dy_flip (j : Nat) : dy x y (j + 1) = x + y - dy x y j := by unfold dy; split <;> split <;> omega
theorem gm_get {j : Nat} (h : 0 ≤ gm rows days x y g1 j) : days.getD (gm rows days x y g1 j).toNat 0 = dy x y j ∧ teamAt rows (gm rows days x y g1 j).toNat (sd j) = tm rows days x y g1 j ∧ (gm rows days x y g1 j).toNat < days.length := fnd_get h
theorem tm_succ (j : Nat) : tm rows days x y g1 (j + 1) = teamAt rows (gm rows days x y g1 j).toNat (sd (j + 1)) := rfl
theorem gm_inj (hp : proper rows days) (hxy : x ≠ y) (hy : fnd rows days 1 g1 y < 0) : ∀ (b : Nat), (∀ i, i ≤ b → 0 ≤ gm rows days x y g1 i) → ∀ a, a < b → (gm rows days x y g1 b).toNat ≠ (gm rows days x y g1 a).toNat := by
  intro b
  induction b with
  | zero => intro _ a ha; omega
  | succ b ih =>
    intro hall a ha e
    have hb := gm_get (hall (b + 1) (by omega))
    have ha' := gm_get (hall a (by omega))
    rw [e] at hb
    -- the same day, so the same side
    have hd : dy x y (b + 1) = dy x y a := by rw [← hb.1, ha'.1]
    have hpar : (b + 1) % 2 = a % 2 := by
      unfold dy at hd
      split at hd <;> split at hd <;> first | omega | (exact absurd hd hxy) | (exact absurd hd.symm hxy)
    have hs : sd (b + 1) = sd a := by unfold sd; rw [hpar]
    have ht : tm rows days x y g1 (b + 1) = tm rows days x y g1 a := by rw [← hb.2.1, hs, ha'.2.1]
    have hprev := gm_get (hall b (by omega))
    cases a with
    | zero =>
      -- the guest would play on day y
      have hb1 : b % 2 = 1 := by omega
      have e1 : dy x y b = y := by unfold dy; rw [if_neg (by omega)]
      have e2 : sd (b + 1) = 1 := by unfold sd; rw [if_pos (by omega)]
      rw [tm_succ, e2] at ht
      have := fnd_ex hprev.2.2 (by rw [hprev.1, e1]) (show teamAt rows (gm rows days x y g1 b).toNat 1 = g1 from ht)
      omega
    | succ a =>
      have hpa := gm_get (hall a (by omega))
      rw [tm_succ, tm_succ, hs] at ht
      have hd2 : dy x y b = dy x y a := by unfold dy; rw [show b % 2 = a % 2 by omega]
      exact ih (fun i hi => hall i (by omega)) a (by omega) (hp _ hprev.2.2 _ hpa.2.2 (by rw [hprev.1, hpa.1, hd2]) _ (sd_lt _) ht)
theorem chain_le (hp : proper rows days) (hxy : x ≠ y) (hy : fnd rows days 1 g1 y < 0) {m : Nat} (h : ∀ i, i < m → 0 ≤ gm rows days x y g1 i) : m ≤ days.length := by
  have hn : ((List.range m).map fun j => (gm rows days x y g1 j).toNat).Nodup :=
    nodup_map_range _ m fun i hi j hj => gm_inj hp hxy hy i (fun k hk => h k (by omega)) j hj
  have := box_le days.length _ hn fun z hz => by
    simp at hz
    obtain ⟨j, hj, rfl⟩ := hz
    exact (gm_get (h j hj)).2.2
  simpa using this
end
/-- How long the chain is. -/
def chLen (rows : List (List Int)) (days : List Int) (x y g1 : Int) : Int := firstN (fun j => decide (gm rows days x y g1 j < 0)) (days.length + 1)
theorem chLen_ok {rows : List (List Int)} {days : List Int} {x y g1 : Int} (hp : proper rows days) (hxy : x ≠ y) (hy : fnd rows days 1 g1 y < 0) :
    ∃ L : Nat, chLen rows days x y g1 = L ∧ L ≤ days.length ∧ gm rows days x y g1 L < 0 ∧ ∀ j, j < L → 0 ≤ gm rows days x y g1 j := by
  have h0 : 0 ≤ chLen rows days x y g1 := by
    by_cases hh : ∃ d, d < days.length + 1 ∧ gm rows days x y g1 d < 0
    · obtain ⟨d, hd, hf⟩ := hh
      exact firstN_ex (k := d) hd (by simpa using hf)
    · exfalso
      have h2 := chain_le hp hxy hy (m := days.length + 1) fun d hd => by
        rcases Int.lt_or_le (gm rows days x y g1 d) 0 with e | e
        · exact absurd ⟨d, hd, e⟩ hh
        · exact e
      omega
  obtain ⟨h1, h2, h3⟩ := firstN_get h0
  have h4 : ∀ j : Nat, j < (chLen rows days x y g1).toNat → 0 ≤ gm rows days x y g1 j := fun j hj => by
    have := h3 j hj
    simpa using this
  exact ⟨(chLen rows days x y g1).toNat, by omega, chain_le hp hxy hy h4, of_decide_eq_true h1, h4⟩

/-! ### The chain's games change their days -/
def flips (x y : Int) (c : List Nat) (ds : List Int) : List Int := c.foldl (fun ds i => ds.set i (x + y - ds.getD i 0)) ds
theorem flips_len (x y : Int) (c : List Nat) : ∀ ds : List Int, (flips x y c ds).length = ds.length := by
  induction c with
  | nil => intro ds; rfl
  | cons i c ih => intro ds; simp only [flips, List.foldl_cons] at ih ⊢; rw [ih]; simp
theorem flips_snoc (x y : Int) (c : List Nat) (i : Nat) (ds : List Int) : flips x y (c ++ [i]) ds = (flips x y c ds).set i (x + y - (flips x y c ds).getD i 0) := by simp [flips]
theorem getD_set {l : List Int} {i j : Nat} {v : Int} (hi : i < l.length) : (l.set i v).getD j 0 = if i = j then v else l.getD j 0 := by
  rw [List.getD, List.getD, List.getElem?_set]
  by_cases e : i = j
  · subst e; simp [hi]
  · simp [e]
theorem flips_get (x y : Int) (c : List Nat) : ∀ (ds : List Int) (j : Nat), c.Nodup → (∀ i ∈ c, i < ds.length) → (flips x y c ds).getD j 0 = if j ∈ c then x + y - ds.getD j 0 else ds.getD j 0 := by
  induction c with
  | nil => intro ds j _ _; simp [flips]
  | cons i c ih =>
    intro ds j hn hb
    have hi := hb i (by simp)
    have ⟨h1, h2⟩ := List.nodup_cons.1 hn
    have := ih (ds.set i (x + y - ds.getD i 0)) j h2 fun k hk => by simpa using hb k (by simp [hk])
    simp only [flips, List.foldl_cons] at this ⊢
    rw [this, getD_set hi]
    by_cases e : i = j
    · subst e; simp [h1]
    · have e' : ¬ j = i := fun h => e h.symm
      simp [e, e', List.mem_cons]
def chain (rows : List (List Int)) (days : List Int) (x y g1 : Int) : List Nat := (List.range (chLen rows days x y g1).toNat).map fun j => (gm rows days x y g1 j).toNat
/-- The days behind one more game. -/
def oneMore (rows : List (List Int)) (days : List Int) (g : List Int) : List Int :=
  let x := fre rows days 0 (g.getD 0 0)
  let y := fre rows days 1 (g.getD 1 0)
  (if x = y then days else flips x y (chain rows days x y (g.getD 1 0)) days) ++ [x]
theorem chain_facts {rows : List (List Int)} {days : List Int} {x y g1 : Int} (hp : proper rows days) (hxy : x ≠ y) (hy : fnd rows days 1 g1 y < 0) :
    (chain rows days x y g1).Nodup ∧ (∀ i ∈ chain rows days x y g1, i < days.length) ∧ (chain rows days x y g1).length ≤ days.length := by
  obtain ⟨L, hL, hle, h0, h1⟩ := chLen_ok hp hxy hy
  unfold chain
  rw [hL, Int.toNat_natCast]
  refine ⟨nodup_map_range _ L fun i hi j hj => gm_inj hp hxy hy i (fun k hk => h1 k (by omega)) j hj, fun i hi => ?_, by simpa using hle⟩
  simp at hi
  obtain ⟨j, hj, rfl⟩ := hi
  exact (gm_get (h1 j hj)).2.2
/-- A game beside the chain that shares a team with one on it is on no day of the chain's but its own. -/
theorem chain_closed {rows : List (List Int)} {days : List Int} {x y g1 : Int} (hp : proper rows days) (hxy : x ≠ y) (hy : fnd rows days 1 g1 y < 0)
    {p q : Nat} (hpc : p ∈ chain rows days x y g1) (hq : q < days.length) (hqc : ¬ q ∈ chain rows days x y g1) {s : Nat} (hs : s < 2) (ht : teamAt rows p s = teamAt rows q s) :
    days.getD q 0 ≠ x + y - days.getD p 0 := by
  obtain ⟨L, hL, hle, h0, h1⟩ := chLen_ok hp hxy hy
  have hmem : ∀ j, j < L → (gm rows days x y g1 j).toNat ∈ chain rows days x y g1 := fun j hj => by
    unfold chain; rw [hL, Int.toNat_natCast]; simp; exact ⟨j, hj, rfl⟩
  have hpc' := hpc
  unfold chain at hpc'
  rw [hL, Int.toNat_natCast] at hpc'
  simp at hpc'
  obtain ⟨j, hj, rfl⟩ := hpc'
  have hg := gm_get (h1 j hj)
  intro hd
  rw [hg.1, ← dy_flip] at hd
  by_cases e : s = sd (j + 1)
  · -- the way out
    subst e
    rw [← tm_succ] at ht
    have hex : 0 ≤ gm rows days x y g1 (j + 1) := fnd_ex hq hd ht.symm
    have hlt : j + 1 < L := by
      by_cases hl : j + 1 < L
      · exact hl
      · have : j + 1 = L := by omega
        rw [this] at hex; omega
    have hg2 := gm_get hex
    have := hp _ hg2.2.2 _ hq (by rw [hg2.1, hd]) _ hs (by rw [hg2.2.1, ht])
    exact hqc (this ▸ hmem (j + 1) hlt)
  · -- the way in
    have e2 : s = sd j := by have := sd_ne j; have := sd_lt j; omega
    subst e2
    rw [hg.2.1] at ht
    cases j with
    | zero =>
      have hd2 : days.getD q 0 = y := by rw [hd]; rfl
      have := fnd_ex (rows := rows) hq hd2 (show teamAt rows q 1 = g1 from ht.symm)
      omega
    | succ j =>
      have hgp := gm_get (h1 j (by omega))
      have hd2 : dy x y (j + 1 + 1) = dy x y j := by unfold dy; rw [show (j + 1 + 1) % 2 = j % 2 by omega]
      rw [tm_succ] at ht
      have := hp _ hgp.2.2 _ hq (by rw [hgp.1, hd, hd2]) _ hs ht
      exact hqc (this ▸ hmem j (by omega))
theorem chain_day {rows : List (List Int)} {days : List Int} {x y g1 : Int} (hp : proper rows days) (hxy : x ≠ y) (hy : fnd rows days 1 g1 y < 0) {p : Nat} (hpc : p ∈ chain rows days x y g1) : days.getD p 0 = x ∨ days.getD p 0 = y := by
  obtain ⟨L, hL, hle, h0, h1⟩ := chLen_ok hp hxy hy
  unfold chain at hpc
  rw [hL, Int.toNat_natCast] at hpc
  simp at hpc
  obtain ⟨j, hj, rfl⟩ := hpc
  rw [(gm_get (h1 j hj)).1]
  exact dy_or j
theorem flips_proper {rows : List (List Int)} {days : List Int} {x y g1 : Int} (hp : proper rows days) (hxy : x ≠ y) (hy : fnd rows days 1 g1 y < 0) : proper rows (flips x y (chain rows days x y g1) days) := by
  obtain ⟨hn, hb, _⟩ := chain_facts hp hxy hy
  intro i hi k hk hd s hs ht
  rw [flips_len] at hi hk
  rw [flips_get x y _ days i hn hb, flips_get x y _ days k hn hb] at hd
  by_cases hic : i ∈ chain rows days x y g1 <;> by_cases hkc : k ∈ chain rows days x y g1 <;> simp only [hic, hkc, if_true, if_false] at hd
  · exact hp i hi k hk (by omega) s hs ht
  · exact absurd hd.symm (chain_closed hp hxy hy hic hk hkc hs ht)
  · exact absurd hd (chain_closed hp hxy hy hkc hi hic hs ht.symm)
  · exact hp i hi k hk hd s hs ht
theorem fnd_none {rows : List (List Int)} {days : List Int} {s : Nat} {t d : Int} (h : ∀ i, i < days.length → days.getD i 0 = d → teamAt rows i s ≠ t) : fnd rows days s t d < 0 := by
  rcases Int.lt_or_le (fnd rows days s t d) 0 with e | e
  · exact e
  · have := fnd_get e
    exact absurd this.2.1 (h _ this.2.2 this.1)
/-- Behind the change both teams are free on day x. -/
theorem flips_free {rows : List (List Int)} {days : List Int} {x y g0 g1 : Int} (hp : proper rows days) (hxy : x ≠ y) (hy : fnd rows days 1 g1 y < 0) (hx : fnd rows days 0 g0 x < 0) :
    fnd rows (flips x y (chain rows days x y g1) days) 0 g0 x < 0 ∧ fnd rows (flips x y (chain rows days x y g1) days) 1 g1 x < 0 := by
  obtain ⟨hn, hb, _⟩ := chain_facts hp hxy hy
  obtain ⟨L, hL, hle, hL0, hL1⟩ := chLen_ok hp hxy hy
  have hmem : ∀ j, j < L → (gm rows days x y g1 j).toNat ∈ chain rows days x y g1 := fun j hj => by
    unfold chain; rw [hL, Int.toNat_natCast]; simp; exact ⟨j, hj, rfl⟩
  constructor
  · refine fnd_none fun i hi hd ht => ?_
    rw [flips_len] at hi
    rw [flips_get x y _ days i hn hb] at hd
    by_cases hic : i ∈ chain rows days x y g1
    · rw [if_pos hic] at hd
      have hdi : days.getD i 0 = y := by omega
      unfold chain at hic
      rw [hL, Int.toNat_natCast] at hic
      simp at hic
      obtain ⟨j, hj, rfl⟩ := hic
      have hg := gm_get (hL1 j hj)
      have hj1 : j % 2 = 1 := by
        have h2 := hg.1
        rw [hdi] at h2
        unfold dy at h2
        split at h2
        · exact absurd h2.symm hxy
        · omega
      have hs0 : sd j = 0 := by unfold sd; rw [if_neg (by omega)]
      rw [hs0] at hg
      rw [hg.2.1] at ht
      cases j with
      | zero => omega
      | succ j =>
        have hgp := gm_get (hL1 j (by omega))
        rw [tm_succ, hs0] at ht
        have hdx : dy x y j = x := by unfold dy; rw [if_pos (by omega)]
        have := fnd_ex (rows := rows) hgp.2.2 (by rw [hgp.1, hdx]) ht
        omega
    · rw [if_neg hic] at hd
      have := fnd_ex (rows := rows) hi hd ht
      omega
  · refine fnd_none fun i hi hd ht => ?_
    rw [flips_len] at hi
    rw [flips_get x y _ days i hn hb] at hd
    by_cases hic : i ∈ chain rows days x y g1
    · rw [if_pos hic] at hd
      have := fnd_ex (rows := rows) hi (show days.getD i 0 = y by omega) ht
      omega
    · rw [if_neg hic] at hd
      have hex : 0 ≤ gm rows days x y g1 0 := fnd_ex hi hd ht
      have h0L : 0 < L := by
        rcases Nat.eq_zero_or_pos L with e | e
        · subst e; omega
        · exact e
      have hg := gm_get hex
      have hs1 : sd 0 = 1 := rfl
      have := hp _ hg.2.2 _ hi (by rw [hg.1, hd]; rfl) 1 (by omega) (by rw [ht]; exact hg.2.1)
      exact hic (this ▸ hmem 0 h0L)
theorem getD_snoc (l : List Int) (v : Int) (j : Nat) : (l ++ [v]).getD j 0 = if j < l.length then l.getD j 0 else if j = l.length then v else 0 := by
  rw [List.getD, List.getD]
  by_cases h : j < l.length
  · rw [List.getElem?_append_left h, if_pos h]
  · rw [if_neg h, List.getElem?_append_right (by omega)]
    by_cases e : j = l.length
    · simp [e]
    · rw [if_neg e, List.getElem?_eq_none (by simp; omega)]; rfl
theorem snoc_proper {rows : List (List Int)} {days : List Int} {x : Int} (hp : proper rows days) (h0 : fnd rows days 0 (teamAt rows days.length 0) x < 0) (h1 : fnd rows days 1 (teamAt rows days.length 1) x < 0) : proper rows (days ++ [x]) := by
  have key : ∀ i, i < days.length → days.getD i 0 = x → ∀ s, s < 2 → teamAt rows i s ≠ teamAt rows days.length s := by
    intro i hi hd s hs e
    have : s = 0 ∨ s = 1 := by omega
    rcases this with rfl | rfl
    · have := fnd_ex (rows := rows) hi hd e; omega
    · have := fnd_ex (rows := rows) hi hd e; omega
  intro i hi k hk hd s hs ht
  simp only [List.length_append, List.length_singleton] at hi hk
  rw [getD_snoc, getD_snoc] at hd
  by_cases hi' : i < days.length <;> by_cases hk' : k < days.length
  · rw [if_pos hi', if_pos hk'] at hd; exact hp i hi' k hk' hd s hs ht
  · obtain rfl : k = days.length := by omega
    rw [if_pos hi', if_neg hk', if_pos rfl] at hd
    exact absurd ht (key i hi' hd s hs)
  · obtain rfl : i = days.length := by omega
    rw [if_neg hi', if_pos rfl, if_pos hk'] at hd
    exact absurd ht.symm (key k hk' hd.symm s hs)
  · omega
/-- What the days keep: one a game, proper, below a bound. -/
structure daysOk (rows : List (List Int)) (k : Nat) (b : Int) (days : List Int) : Prop where
  len : days.length = k
  prop : proper rows days
  low : ∀ d ∈ days, 0 ≤ d ∧ d < b
theorem mem_getD {l : List Int} {z : Int} (h : z ∈ l) : ∃ j, j < l.length ∧ l.getD j 0 = z := by
  obtain ⟨j, hj, rfl⟩ := List.getElem_of_mem h
  exact ⟨j, hj, by simp [List.getD, hj]⟩
theorem getD_mem0 {l : List Int} {j : Nat} (h : j < l.length) : l.getD j 0 ∈ l := by simp [List.getD, h]
theorem oneMore_ok {rows : List (List Int)} {k : Nat} {b : Int} {days g : List Int} (h : daysOk rows k b days) (hg : rows[k]? = some g) (hb : ∀ s, s < 2 → (hasG rows k s (teamAt rows k s) : Int) < b) :
    daysOk rows (k + 1) b (oneMore rows days g) := by
  obtain ⟨hl, hp, hd⟩ := h
  have e0 : g.getD 0 0 = teamAt rows k 0 := by simp [teamAt, List.getD, hg]
  have e1 : g.getD 1 0 = teamAt rows k 1 := by simp [teamAt, List.getD, hg]
  obtain ⟨x, hx, hxb, hx0, hx1⟩ := fre_ok rows days 0 (teamAt rows k 0)
  obtain ⟨y, hy, hyb, hy0, hy1⟩ := fre_ok rows days 1 (teamAt rows k 1)
  rw [hl] at hxb hyb
  have hb0 := hb 0 (by omega)
  have hb1 := hb 1 (by omega)
  unfold oneMore
  simp only [e0, e1, hx, hy]
  by_cases exy : (x : Int) = y
  · rw [if_pos exy]
    refine ⟨by simp [hl], ?_, fun d hm => ?_⟩
    · refine snoc_proper hp ?_ ?_
      · rw [hl]; exact hx0
      · rw [hl, exy]; exact hy0
    · rcases List.mem_append.1 hm with hm | hm
      · exact hd d hm
      · simp at hm; omega
  · rw [if_neg exy]
    have hf := flips_free (g0 := teamAt rows k 0) hp exy hy0 hx0
    have hfl := flips_len (x : Int) y (chain rows days x y (teamAt rows k 1)) days
    obtain ⟨hn, hbd, _⟩ := chain_facts hp exy hy0
    refine ⟨by rw [List.length_append, hfl, hl]; rfl, ?_, fun d hm => ?_⟩
    · refine snoc_proper (flips_proper hp exy hy0) ?_ ?_
      · rw [hfl, hl]; exact hf.1
      · rw [hfl, hl]; exact hf.2
    · rcases List.mem_append.1 hm with hm | hm
      · obtain ⟨j, hj, rfl⟩ := mem_getD hm
        rw [hfl] at hj
        rw [flips_get _ _ _ days j hn hbd]
        split
        · rename_i hc
          have := chain_day hp exy hy0 hc
          omega
        · exact hd _ (getD_mem0 hj)
      · simp at hm; omega
def sched (rows : List (List Int)) : Nat → List Int
  | 0 => []
  | k + 1 => oneMore rows (sched rows k) (rows.getD k [])
theorem hasG_lt {rows : List (List Int)} {k n s : Nat} {t : Int} (h : k < n) (ht : teamAt rows k s = t) : hasG rows k s t < hasG rows n s t := by
  unfold hasG
  obtain ⟨m, rfl⟩ : ∃ m, n = k + 1 + m := ⟨n - (k + 1), by omega⟩
  induction m with
  | zero => rw [Nat.add_zero, List.range_succ, List.countP_append]; simp [ht]
  | succ m ih =>
    have := ih (by omega)
    rw [show k + 1 + (m + 1) = k + 1 + m + 1 from rfl, List.range_succ (n := k + 1 + m), List.countP_append]
    omega
theorem sched_ok {rows : List (List Int)} {b : Int} (hb : ∀ k, k < rows.length → ∀ s, s < 2 → (hasG rows rows.length s (teamAt rows k s) : Int) ≤ b) {k : Nat} (hk : k ≤ rows.length) : daysOk rows k b (sched rows k) := by
  induction k with
  | zero => exact ⟨rfl, fun i hi => absurd hi (Nat.not_lt_zero _), fun d hd => by simp [sched] at hd⟩
  | succ k ih =>
    have hg : rows[k]? = some (rows.getD k []) := by rw [List.getD, List.getElem?_eq_getElem (by omega)]; rfl
    refine oneMore_ok (ih (by omega)) hg fun s hs => ?_
    have h1 := hasG_lt (rows := rows) (k := k) (n := rows.length) (s := s) (by omega) rfl
    have h2 := hb k (by omega) s hs
    omega
theorem sched_ok18 {rows : List (List Int)} (h : rows.length ≤ 18) {k : Nat} (hk : k ≤ rows.length) : daysOk rows k 18 (sched rows k) :=
  sched_ok (fun k hk s hs => by have := hasG_le rows rows.length s (teamAt rows k s); omega) hk
def scheduled (rows : List (List Int)) : List Int := if gamesOk rows then sched rows rows.length else []
theorem scheduled_len (rows : List (List Int)) : (scheduled rows).length ≤ 18 := by
  unfold scheduled
  split
  · rename_i h; rw [(sched_ok18 h.1 (Nat.le_refl _)).len]; exact h.1
  · simp

/-! ### Teams that are idle on a day -/
def teamPlays (rows : List (List Int)) (s : Nat) (t : Int) : Bool := rows.any fun g => decide (g.getD s 0 = t)
def idleAt (rows : List (List Int)) (days : List Int) (s : Nat) (d : Int) (t : Nat) : Bool := teamPlays rows s (t : Int) && decide (fnd rows days s (t : Int) d < 0)
def idleTo (rows : List (List Int)) (days : List Int) (s : Nat) (d : Int) : Nat → List Int
  | 0 => []
  | k + 1 => idleTo rows days s d k ++ if idleAt rows days s d k = true then [(k : Int)] else []
theorem idleTo_len (rows : List (List Int)) (days : List Int) (s : Nat) (d : Int) (k : Nat) : (idleTo rows days s d k).length ≤ k := by
  induction k with
  | zero => simp [idleTo]
  | succ k ih => simp only [idleTo, List.length_append]; split <;> simp <;> omega
theorem idleTo_yes {rows : List (List Int)} {days : List Int} {s : Nat} {d : Int} {k : Nat} (h : idleAt rows days s d k = true) : idleTo rows days s d (k + 1) = idleTo rows days s d k ++ [(k : Int)] := by simp only [idleTo]; rw [if_pos h]
theorem idleTo_no {rows : List (List Int)} {days : List Int} {s : Nat} {d : Int} {k : Nat} (h : idleAt rows days s d k = false) : idleTo rows days s d (k + 1) = idleTo rows days s d k := by simp only [idleTo]; rw [h]; simp

/-! ### The chain, one game after the other -/
def flT (rows : List (List Int)) (ds : List Int) (x y g1 : Int) (q : Nat) : List Int := flips x y ((List.range q).map fun j => (gm rows ds x y g1 j).toNat) ds
theorem flT_len (rows : List (List Int)) (ds : List Int) (x y g1 : Int) (q : Nat) : (flT rows ds x y g1 q).length = ds.length := flips_len _ _ _ _
theorem flT_succ (rows : List (List Int)) (ds : List Int) (x y g1 : Int) (q : Nat) : flT rows ds x y g1 (q + 1) = (flT rows ds x y g1 q).set (gm rows ds x y g1 q).toNat (x + y - (flT rows ds x y g1 q).getD (gm rows ds x y g1 q).toNat 0) := by
  unfold flT
  rw [List.range_succ, List.map_append]
  exact flips_snoc _ _ _ _ _
theorem flT_get {rows : List (List Int)} {ds : List Int} {x y g1 : Int} (hp : proper rows ds) (hxy : x ≠ y) (hy : fnd rows ds 1 g1 y < 0) {L : Nat} (hall : ∀ j, j < L → 0 ≤ gm rows ds x y g1 j) {q : Nat} (hq : q < L) :
    (flT rows ds x y g1 q).getD (gm rows ds x y g1 q).toNat 0 = dy x y q := by
  have hn : ((List.range q).map fun j => (gm rows ds x y g1 j).toNat).Nodup :=
    nodup_map_range _ q fun i hi j hj => gm_inj hp hxy hy i (fun k hk => hall k (by omega)) j hj
  unfold flT
  rw [flips_get _ _ _ _ _ hn fun i hi => ?_]
  · rw [if_neg]
    · exact (gm_get (hall q hq)).1
    · intro hm
      simp at hm
      obtain ⟨j, hj, e⟩ := hm
      exact gm_inj hp hxy hy q (fun k hk => hall k (by omega)) j hj e.symm
  · simp at hi
    obtain ⟨j, hj, rfl⟩ := hi
    exact (gm_get (hall j (by omega))).2.2
theorem oneMore_same {rows : List (List Int)} {ds g : List Int} {x : Int} (hx : fre rows ds 0 (g.getD 0 0) = x) (hy : fre rows ds 1 (g.getD 1 0) = x) : oneMore rows ds g = ds ++ [x] := by
  unfold oneMore; simp only [hx, hy, if_true]
theorem oneMore_diff {rows : List (List Int)} {ds g : List Int} {x y : Int} {L : Nat} (hx : fre rows ds 0 (g.getD 0 0) = x) (hy : fre rows ds 1 (g.getD 1 0) = y) (hxy : x ≠ y) (hL : chLen rows ds x y (g.getD 1 0) = L) : oneMore rows ds g = flT rows ds x y (g.getD 1 0) L ++ [x] := by
  unfold oneMore; simp only [hx, hy, if_neg hxy]; unfold chain flT; rw [hL]; rfl
/-- The chain's games as numbers. -/
def chI (rows : List (List Int)) (ds : List Int) (x y g1 : Int) (j : Nat) : List Int := (List.range j).map fun i => gm rows ds x y g1 i
theorem chI_len (rows : List (List Int)) (ds : List Int) (x y g1 : Int) (j : Nat) : (chI rows ds x y g1 j).length = j := by simp [chI]
theorem chI_succ (rows : List (List Int)) (ds : List Int) (x y g1 : Int) (j : Nat) : chI rows ds x y g1 (j + 1) = chI rows ds x y g1 j ++ [gm rows ds x y g1 j] := by simp [chI, List.range_succ]
theorem chI_get (rows : List (List Int)) (ds : List Int) (x y g1 : Int) {j q : Nat} (h : q < j) : (chI rows ds x y g1 j)[q]? = some (gm rows ds x y g1 q) := by simp [chI, h]
theorem sched_succ {rows : List (List Int)} {k : Nat} {g : List Int} (h : rows[k]? = some g) : sched rows (k + 1) = oneMore rows (sched rows k) g := by
  simp only [sched]; rw [List.getD, h]; rfl
theorem plays_getD {rows : List (List Int)} {days r : List Int} {i s : Nat} {x t d : Int} (hx : days[i]? = some x) (hr : rows[i]? = some r) : plays rows days s t d i = decide (x = d ∧ r.getD s 0 = t) := by
  unfold plays teamAt
  rw [decide_eq_decide]
  simp [List.getD, hx, hr]
theorem teamAt_get {rows : List (List Int)} {r : List Int} {i s : Nat} (hr : rows[i]? = some r) : teamAt rows i s = r.getD s 0 := by unfold teamAt; simp [List.getD, hr]

end Go.Proofs.Ytbaljgdepicigaa
