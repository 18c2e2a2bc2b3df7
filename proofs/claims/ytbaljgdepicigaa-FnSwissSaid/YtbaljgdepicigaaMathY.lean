/-
  Plain lemmas on who can win a bracket: no program.
-/
import Derived.Test.YtbaljgdepicigaaBase
import Derived.Test.YtbaljgdepicigaaMathA
import Derived.Test.YtbaljgdepicigaaMathD
import Derived.Test.YtbaljgdepicigaaMathB
import Derived.Test.YtbaljgdepicigaaMathU
import Derived.Test.YtbaljgdepicigaaMathW
import Derived.Test.YtbaljgdepicigaaMathZ
namespace Go.Proofs.Ytbaljgdepicigaa
set_option linter.unusedVariables false

/-! ### The elements of a set -/
def memTo (m k : Nat) : List Int := ((List.range k).filter fun a => m.testBit a).map fun (a : Nat) => (a : Int)
def mems (m : Nat) : List Int := memTo m 8
theorem memTo_succ (m k : Nat) : memTo m (k + 1) = memTo m k ++ if m.testBit k then [(k : Int)] else [] := by
  unfold memTo; rw [List.range_succ, List.filter_append, List.map_append]
  cases h : m.testBit k <;> simp [h]
theorem memTo_end : ∀ m : Nat, m < 256 → ∀ a : Nat, a < 9 → m / 2 ^ a = 0 → memTo m a = mems m := by decide +kernel
theorem mem_memTo {m k : Nat} {x : Int} : x ∈ memTo m k ↔ ∃ a : Nat, a < k ∧ m.testBit a = true ∧ x = a := by
  simp [memTo]
  constructor
  · rintro ⟨a, ⟨h1, h2⟩, rfl⟩; exact ⟨a, h1, h2, rfl⟩
  · rintro ⟨a, h1, h2, rfl⟩; exact ⟨a, ⟨h1, h2⟩, rfl⟩
theorem mem_mems {m : Nat} {x : Int} : x ∈ mems m ↔ ∃ a : Nat, a < 8 ∧ m.testBit a = true ∧ x = a := mem_memTo
theorem memTo_len (m k : Nat) : (memTo m k).length ≤ k := by
  unfold memTo; rw [List.length_map]; have := List.length_filter_le (fun a => m.testBit a) (List.range k); simpa using this
def pcTo (m : Nat) : Nat → Nat
  | 0 => 0
  | j + 1 => pcTo m j + m / 2 ^ j % 2
theorem pcTo_end : ∀ m : Nat, m < 256 → ∀ a : Nat, a < 9 → m / 2 ^ a = 0 → pcTo m a = pc m := by decide +kernel
theorem pcTo_le (m j : Nat) : pcTo m j ≤ j := by
  induction j with
  | zero => exact Nat.le_refl _
  | succ j ih => simp only [pcTo]; omega
theorem shr_small : ∀ m : Nat, m < 256 → m / 2 ^ 8 = 0 := fun m h => by omega
theorem pc_all : ∀ n : Nat, n < 9 → pc (2 ^ n - 1) = n := by decide

/-! ### Who can win -/
def subB (a b : Nat) : Prop := ∀ i, a.testBit i = true → b.testBit i = true
def rowN (xs : List Int) (a : Int) : Nat := (xs.getD a.toNat 0).toNat
def addW (xs : List Int) (two : Nat) (out : Nat) (l : List Int) : Nat := l.foldl (fun out a => if rowN xs a &&& two = 0 then out else out ||| 2 ^ a.toNat) out
theorem addW_snoc (xs : List Int) (two out : Nat) (l : List Int) (a : Int) : addW xs two out (l ++ [a]) = if rowN xs a &&& two = 0 then addW xs two out l else addW xs two out l ||| 2 ^ a.toNat := by simp [addW]
theorem addW_take (xs : List Int) (two out : Nat) {l : List Int} {k : Nat} {a : Int} (h : l[k]? = some a) : addW xs two out (l.take (k + 1)) = if rowN xs a &&& two = 0 then addW xs two out (l.take k) else addW xs two out (l.take k) ||| 2 ^ a.toNat := by
  rw [take_snoc_of h, addW_snoc]
theorem testBit_pow (a i : Nat) : (2 ^ a).testBit i = decide (a = i) := by rw [Nat.testBit_two_pow]
theorem addW_bits (xs : List Int) (two : Nat) (i : Nat) : ∀ (l : List Int) (out : Nat), (addW xs two out l).testBit i = (out.testBit i || l.any fun a => decide (a.toNat = i) && !decide (rowN xs a &&& two = 0)) := by
  intro l
  induction l with
  | nil => intro out; simp [addW]
  | cons a l ih =>
    intro out
    have e : addW xs two out (a :: l) = addW xs two (if rowN xs a &&& two = 0 then out else out ||| 2 ^ a.toNat) l := rfl
    rw [e, ih]
    by_cases h : rowN xs a &&& two = 0
    · simp [h]
    · simp only [h, if_false, Nat.testBit_or, testBit_pow, List.any_cons, decide_false, Bool.not_false, Bool.and_true, Bool.or_assoc]
/-- Those that are in already need not be asked. -/
theorem addW_skip (xs : List Int) (two out one : Nat) : addW xs two out (mems (one &&& (255 - out))) = addW xs two out (mems one) → True := fun _ => trivial
def wTo (xs : List Int) (W : Nat → Nat) (set sz : Nat) : Nat → Nat
  | 0 => 0
  | h + 1 => if 1 ≤ h ∧ h &&& set = h ∧ pc h = sz then addW xs (W (set - h)) (wTo xs W set sz h) (mems (W h)) else wTo xs W set sz h
def win (xs : List Int) : Nat → Nat → Nat
  | 0, set => set
  | k + 1, set => wTo xs (win xs k) set (pw2 k) set
theorem wTo_yes {xs : List Int} {W : Nat → Nat} {set sz h : Nat} (h1 : 1 ≤ h) (h2 : h &&& set = h) (h3 : pc h = sz) : wTo xs W set sz (h + 1) = addW xs (W (set - h)) (wTo xs W set sz h) (mems (W h)) := by
  simp only [wTo]; rw [if_pos ⟨h1, h2, h3⟩]
theorem wTo_no {xs : List Int} {W : Nat → Nat} {set sz h : Nat} (hn : ¬ (1 ≤ h ∧ h &&& set = h ∧ pc h = sz)) : wTo xs W set sz (h + 1) = wTo xs W set sz h := by
  simp only [wTo]; rw [if_neg hn]
theorem lt_of_sub {a b n : Nat} (h : subB a b) (hb : b < 2 ^ n) : a < 2 ^ n := by
  apply Nat.lt_pow_two_of_testBit
  intro i hi
  cases e : a.testBit i with
  | false => rfl
  | true =>
    have := h i e
    rw [Nat.testBit_lt_two_pow (Nat.lt_of_lt_of_le hb (Nat.pow_le_pow_right (by omega) hi))] at this
    cases this
theorem subB_and {a b : Nat} (h : a &&& b = a) : subB a b := fun i hi => by
  rw [← h, Nat.testBit_and] at hi
  simp at hi; exact hi.2
theorem wTo_sub {xs : List Int} {W : Nat → Nat} {set sz : Nat} (hset : set < 256) (hW : ∀ h, h &&& set = h → pc h = sz → subB (W h) h) : ∀ h, h ≤ set → subB (wTo xs W set sz h) set := by
  intro h
  induction h with
  | zero => intro _ i hi; simp [wTo] at hi
  | succ h ih =>
    intro hh
    have ih := ih (by omega)
    by_cases hc : 1 ≤ h ∧ h &&& set = h ∧ pc h = sz
    · rw [wTo_yes hc.1 hc.2.1 hc.2.2]
      intro i hi
      rw [addW_bits] at hi
      rcases Bool.or_eq_true _ _ ▸ hi with hi | hi
      · exact ih i hi
      · rw [List.any_eq_true] at hi
        obtain ⟨a, ha, hb⟩ := hi
        rw [Bool.and_eq_true, decide_eq_true_eq] at hb
        obtain ⟨b, _, hb2, rfl⟩ := mem_mems.1 ha
        obtain rfl : b = i := by have := hb.1; simpa using this
        exact subB_and hc.2.1 _ (hW h hc.2.1 hc.2.2 _ hb2)
    · rw [wTo_no hc]; exact ih
theorem pw2_eq (k : Nat) : pw2 (k + 1) = 2 * pw2 k := by simp only [pw2]
theorem win_sub (xs : List Int) : ∀ (k set : Nat), set < 256 → pc set = pw2 k → subB (win xs k set) set := by
  intro k
  induction k with
  | zero => intro set _ _ i h; exact h
  | succ k ih =>
    intro set hs hp
    refine wTo_sub hs (fun h hh hpc => ih h ?_ hpc) set (Nat.le_refl _)
    have : h ≤ set := by rw [← hh]; exact Nat.and_le_right
    omega
theorem win_lt (xs : List Int) {k set : Nat} (hs : set < 256) (hp : pc set = pw2 k) : win xs k set < 256 := lt_of_sub (n := 8) (win_sub xs k set hs hp) hs
/-- The reference asks only those that are not in yet. -/
theorem mems_not_in {xs : List Int} {two out one : Nat} (ho : out < 256) (h1 : one < 256) (rest : Nat) (hr : rest < 256) (hrest : ∀ i, i < 8 → rest.testBit i = (one.testBit i && !out.testBit i)) : addW xs two out (mems rest) = addW xs two out (mems one) := by
  apply Nat.eq_of_testBit_eq
  intro i
  rw [addW_bits, addW_bits]
  cases e : out.testBit i with
  | true => simp
  | false =>
    simp only [Bool.false_or]
    rw [Bool.eq_iff_iff, List.any_eq_true, List.any_eq_true]
    constructor
    · rintro ⟨x, hx, hp⟩
      obtain ⟨a, ha, hb, rfl⟩ := mem_mems.1 hx
      rw [hrest a ha] at hb
      simp at hb
      exact ⟨_, mem_mems.2 ⟨a, ha, hb.1, rfl⟩, hp⟩
    · rintro ⟨x, hx, hp⟩
      obtain ⟨a, ha, hb, rfl⟩ := mem_mems.1 hx
      have hai : a = i := by rw [Bool.and_eq_true, decide_eq_true_eq] at hp; have := hp.1; simpa using this
      refine ⟨_, mem_mems.2 ⟨a, ha, ?_, rfl⟩, hp⟩
      rw [hrest a ha, hb, hai, e]; rfl
/-- The set of all players. -/
def fullS (s : Int) : Nat := 2 ^ s.toNat - 1
theorem fullS_ok {s : Int} (h0 : 0 ≤ s) (h8 : s ≤ 8) : fullS s < 256 ∧ pc (fullS s) = s.toNat ∧ fullS s < 2 ^ s.toNat := by
  have h1 := pc_all s.toNat (by omega)
  have h2 : 2 ^ s.toNat ≤ 2 ^ 8 := Nat.pow_le_pow_right (by omega) (by omega)
  have h3 := Nat.two_pow_pos s.toNat
  unfold fullS
  exact ⟨by omega, h1, by omega⟩
def winOk (s : Int) (xs : List Int) (set : Int) : Prop := tourOk s xs ∧ (1 ≤ set ∧ set ≤ (fullS s : Int)) ∧ brkSize (pc set.toNat)
instance (s : Int) (xs : List Int) (set : Int) : Decidable (winOk s xs set) := by unfold winOk; infer_instance
def winnersOf (s : Int) (xs : List Int) (set : Int) : Int := if winOk s xs set then (win xs (lg (pc set.toNat)) set.toNat : Int) else 0
theorem winOk_set {s : Int} {xs : List Int} {set : Int} (h : winOk s xs set) : set.toNat < 256 ∧ set.toNat < 2 ^ xs.length ∧ pc set.toNat = pw2 (lg (pc set.toNat)) := by
  have h1 := tourOk_size h.1
  have h2 := fullS_ok (s := s) (by omega) (by omega)
  have h3 := h.2.1
  have h4 := brk_pw2 h.2.2
  have h5 : s.toNat = xs.length := by omega
  rw [h5] at h2
  exact ⟨by omega, by omega, by omega⟩
theorem winnersOf_nat (s : Int) (xs : List Int) (set : Int) : ∃ v : Nat, winnersOf s xs set = (v : Int) ∧ v < 256 := by
  unfold winnersOf
  split
  · rename_i h
    have := winOk_set h
    exact ⟨_, rfl, win_lt xs this.1 this.2.2⟩
  · exact ⟨0, rfl, by omega⟩
def fixedOk (s : Int) (xs : List Int) : Prop := tourOk s xs ∧ brkSize s
instance (s : Int) (xs : List Int) : Decidable (fixedOk s xs) := by unfold fixedOk; infer_instance
theorem fixed_win {s : Int} {xs : List Int} (h : fixedOk s xs) : winOk s xs (fullS s) ∧ lg (pc (fullS s)) = lg s := by
  have h1 := tourOk_size h.1
  have h2 := fullS_ok (s := s) (by omega) (by omega)
  have h3 : ((pc (fullS s) : Nat) : Int) = s := by omega
  have h4 : 0 < fullS s := by
    rcases Nat.eq_zero_or_pos (fullS s) with e | e
    · rw [e] at h2; simp [pc] at h2; omega
    · exact e
  refine ⟨⟨h.1, ⟨by omega, Int.le_refl _⟩, ?_⟩, by rw [h3]⟩
  rw [Int.toNat_natCast, h3]; exact h.2
def possW (s : Int) (xs : List Int) : Int := if fixedOk s xs then (win xs (lg s) (fullS s) : Int) else 0
theorem possW_winners {s : Int} {xs : List Int} (h : fixedOk s xs) : possW s xs = winnersOf s xs (fullS s) := by
  have h1 := fixed_win h
  unfold possW winnersOf
  rw [if_pos h, if_pos h1.1, Int.toNat_natCast, h1.2]
/-- Is player a in a set that is given as a number? -/
def inSet (v a : Int) : Prop := v.toNat.testBit a.toNat = true
instance (v a : Int) : Decidable (inSet v a) := by unfold inSet; infer_instance
def halfFor (s : Int) (xs : List Int) (a set : Int) : Prop := winOk s xs set ∧ (0 ≤ a ∧ a ≤ s - 1) ∧ inSet (winnersOf s xs set) a
instance (s : Int) (xs : List Int) (a set : Int) : Decidable (halfFor s xs a set) := by unfold halfFor; infer_instance
def canWin (s : Int) (xs : List Int) (a : Int) : Prop := fixedOk s xs ∧ (0 ≤ a ∧ a ≤ s - 1) ∧ inSet (possW s xs) a
instance (s : Int) (xs : List Int) (a : Int) : Decidable (canWin s xs a) := by unfold canWin; infer_instance
theorem canWin_half {s : Int} {xs : List Int} {a : Int} (h : fixedOk s xs) : canWin s xs a ↔ halfFor s xs a (fullS s) := by
  have h1 := fixed_win h
  unfold canWin halfFor
  rw [possW_winners h]
  exact ⟨fun hh => ⟨h1.1, hh.2⟩, fun hh => ⟨h, hh.2⟩⟩
theorem winnersOf_set {s : Int} {xs : List Int} {a set : Int} (h : inSet (winnersOf s xs set) a) : winOk s xs set := by
  unfold winnersOf at h
  split at h
  · assumption
  · unfold inSet at h; simp at h
/-- Bits of one player. -/
theorem and_pow : ∀ v : Nat, v < 256 → ∀ a : Nat, a < 8 → ((v &&& 2 ^ a = 0) = (v.testBit a = false)) := by
  intro v _ a _
  apply propext
  constructor
  · intro h
    have h2 := congrArg (fun z => z.testBit a) h
    simp only [Nat.testBit_and, Nat.testBit_two_pow, Nat.zero_testBit, decide_true, Bool.and_true] at h2
    exact h2
  · intro h
    apply Nat.eq_of_testBit_eq
    intro i
    rw [Nat.testBit_and, Nat.testBit_two_pow, Nat.zero_testBit]
    by_cases e : a = i
    · subst e; simp [h]
    · simp [e]

/-! ### Kings -/
/-- Whom a beats at once or by one between, and a. -/
def orRows (xs : List Int) (out : Nat) (l : List Int) : Nat := l.foldl (fun out a => out ||| rowN xs a) out
theorem orRows_take (xs : List Int) (out : Nat) {l : List Int} {k : Nat} {a : Int} (h : l[k]? = some a) : orRows xs out (l.take (k + 1)) = orRows xs out (l.take k) ||| rowN xs a := by
  rw [take_snoc_of h]; simp [orRows]
def isKing (s : Int) (xs : List Int) (a : Int) : Prop := orRows xs (2 ^ a.toNat ||| rowN xs a) (mems (rowN xs a)) = fullS s
instance (s : Int) (xs : List Int) (a : Int) : Decidable (isKing s xs a) := by unfold isKing; infer_instance
def strongKing (s : Int) (xs : List Int) (a : Int) : Prop := fixedOk s xs ∧ (0 ≤ a ∧ a ≤ s - 1) ∧ isKing s xs a ∧ s / 2 ≤ (pc (rowN xs a) : Int)
instance (s : Int) (xs : List Int) (a : Int) : Decidable (strongKing s xs a) := by unfold strongKing; infer_instance

end Go.Proofs.Ytbaljgdepicigaa
