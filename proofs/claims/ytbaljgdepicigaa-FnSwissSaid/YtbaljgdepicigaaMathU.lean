/-
  Plain lemmas on bits, tours and brackets: no program.
-/
import Derived.Test.YtbaljgdepicigaaBase
import Derived.Test.YtbaljgdepicigaaMathA
import Derived.Test.YtbaljgdepicigaaMathD
import Derived.Test.YtbaljgdepicigaaMathB
namespace Go.Proofs.Ytbaljgdepicigaa
set_option linter.unusedVariables false

/-! ### Bits -/
/-- Bit b of a number. -/
def bitAt (m : Int) (b : Nat) : Int := m / 2 ^ b % 2
theorem bitAt_01 (m : Int) (b : Nat) : bitAt m b = 0 ∨ bitAt m b = 1 := by unfold bitAt; omega
theorem bitAt_nat (m : Nat) (b : Nat) : bitAt (m : Int) b = if m.testBit b then 1 else 0 := by
  unfold bitAt
  have e : (m : Int) / 2 ^ b % 2 = ((m / 2 ^ b % 2 : Nat) : Int) := by simp
  rw [e, Nat.testBit_eq_decide_div_mod_eq]
  by_cases h : m / 2 ^ b % 2 = 1
  · simp [h]
  · have : m / 2 ^ b % 2 = 0 := by omega
    simp [this]
theorem bitAt_iff (m : Nat) (b : Nat) : bitAt (m : Int) b = 1 ↔ m.testBit b = true := by rw [bitAt_nat]; split <;> simp_all
theorem bit_add : ∀ m : Nat, m < 256 → ∀ a : Nat, a < 8 → m.testBit a = false → ∀ b : Nat, b < 8 → (m + 2 ^ a).testBit b = (m.testBit b || a == b) := by decide +kernel
theorem bit_add_lt : ∀ m : Nat, m < 256 → ∀ a : Nat, a < 8 → m.testBit a = false → m + 2 ^ a < 256 := by decide +kernel

/-! ### Tours -/
/-- Does a beat b? -/
def bts (xs : List Int) (a b : Nat) : Prop := bitAt (xs.getD a 0) b = 1
instance (xs : List Int) (a b : Nat) : Decidable (bts xs a b) := by unfold bts; infer_instance
def tourOk (s : Int) (xs : List Int) : Prop :=
  (1 ≤ s ∧ s ≤ 8) ∧ (xs.length : Int) = s ∧ (∀ x ∈ xs, 0 ≤ x ∧ x ≤ 2 ^ xs.length - 1) ∧ ∀ a, a < xs.length → (∀ b, b < a → (bts xs a b ↔ ¬ bts xs b a)) ∧ ¬ bts xs a a
instance (s : Int) (xs : List Int) : Decidable (tourOk s xs) := by unfold tourOk; infer_instance
theorem tourOk_size {s : Int} {xs : List Int} (h : tourOk s xs) : 1 ≤ xs.length ∧ xs.length ≤ 8 ∧ s = xs.length := by
  have := h.1; have := h.2.1; omega
theorem pow_le_256 {n : Nat} (h : n ≤ 8) : (2 : Int) ^ n ≤ 256 := by
  have h2 : (2 : Nat) ^ n ≤ 2 ^ 8 := Nat.pow_le_pow_right (by omega) h
  have h3 : ((2 ^ n : Nat) : Int) = (2 : Int) ^ n := by simp
  omega
theorem tourOk_row {s : Int} {xs : List Int} (h : tourOk s xs) : ∀ x ∈ xs, 0 ≤ x ∧ x ≤ 255 := fun x hx => by
  have h1 := h.2.2.1 x hx
  have h2 := pow_le_256 (tourOk_size h).2.1
  omega
theorem bts_anti {s : Int} {xs : List Int} (h : tourOk s xs) {a b : Nat} (ha : a < xs.length) (hb : b < xs.length) (hne : a ≠ b) : bts xs a b ↔ ¬ bts xs b a := by
  rcases Nat.lt_or_gt_of_ne hne with hlt | hlt
  · have := (h.2.2.2 b hb).1 a hlt
    by_cases e : bts xs a b <;> by_cases e2 : bts xs b a <;> simp_all
  · exact (h.2.2.2 a ha).1 b hlt
theorem bts_self {s : Int} {xs : List Int} (h : tourOk s xs) {a : Nat} (ha : a < xs.length) : ¬ bts xs a a := (h.2.2.2 a ha).2
/-- What the loop has seen of a tour. -/
def tourTo (xs : List Int) (k : Nat) : Prop := ∀ a, a < k → (∀ b, b < a → (bts xs a b ↔ ¬ bts xs b a)) ∧ ¬ bts xs a a
theorem tourTo_succ {xs : List Int} {k : Nat} (h : tourTo xs k) (h1 : ∀ b, b < k → (bts xs k b ↔ ¬ bts xs b k)) (h2 : ¬ bts xs k k) : tourTo xs (k + 1) := by
  intro a ha
  by_cases e : a = k
  · subst e; exact ⟨h1, h2⟩
  · exact h a (by omega)
theorem upTo_succ {P : Nat → Prop} {k : Nat} (h : ∀ b, b < k → P b) (hk : P k) : ∀ b, b < k + 1 → P b := by
  intro b hb
  by_cases e : b = k
  · subst e; exact hk
  · exact h b (by omega)

/-! ### Brackets -/
/-- The entries that are players. -/
def plrs (br : List Int) : List Int := br.filter fun x => decide (0 ≤ x)
def bracketOk (s : Int) (xs br : List Int) : Prop :=
  tourOk s xs ∧ brkSize br.length ∧ (∀ x ∈ br, -1 ≤ x ∧ x ≤ s - 1) ∧ plrs br ≠ [] ∧ (plrs br).Nodup
instance (s : Int) (xs br : List Int) : Decidable (bracketOk s xs br) := by unfold bracketOk; infer_instance
theorem plrs_snoc {br : List Int} {k : Nat} {x : Int} (h : br[k]? = some x) : plrs (br.take (k + 1)) = plrs (br.take k) ++ if 0 ≤ x then [x] else [] := by
  rw [take_snoc_of h]; simp only [plrs, List.filter_append]; by_cases e : 0 ≤ x <;> simp [e]
theorem mem_plrs {br : List Int} {x : Int} : x ∈ plrs br ↔ x ∈ br ∧ 0 ≤ x := by simp [plrs]
theorem nodup_push {l : List Int} {x : Int} : (l ++ [x]).Nodup ↔ l.Nodup ∧ ¬ x ∈ l := by
  rw [List.nodup_append]; simp
  intro _
  constructor
  · intro h hx; exact h x hx rfl
  · intro h y hy e; exact h (e ▸ hy)
theorem plrs_take {br : List Int} (k : Nat) (h : (plrs br).Nodup) : (plrs (br.take k)).Nodup := h.sublist ((List.take_sublist k br).filter _)
theorem ne_nil_mem {α : Type} {l : List α} : l ≠ [] ↔ ∃ x, x ∈ l := by cases l with | nil => simp | cons x r => simp
theorem foldl_max_ge {l : List Int} : ∀ a : Int, 0 ≤ l.foldl max a ↔ 0 ≤ a ∨ ∃ x ∈ l, 0 ≤ x := by
  induction l with
  | nil => simp
  | cons y r ih =>
    intro a
    simp only [List.foldl_cons, ih, List.mem_cons, exists_eq_or_imp, ← or_assoc]
    have : 0 ≤ max a y ↔ 0 ≤ a ∨ 0 ≤ y := by omega
    rw [this]
theorem plrs_max {br : List Int} : plrs br ≠ [] ↔ ¬ br.foldl max (-1) < 0 := by
  rw [Int.not_lt, foldl_max_ge, ne_nil_mem]
  simp [mem_plrs]
/-- The set of players. -/
def setN : List Int → Nat
  | [] => 0
  | x :: r => setN r + 2 ^ x.toNat
theorem setN_snoc (l : List Int) (x : Int) : setN (l ++ [x]) = setN l + 2 ^ x.toNat := by
  induction l with
  | nil => simp [setN]
  | cons y r ih => simp only [List.cons_append, setN, ih]; omega
theorem setN_bits (l : List Int) (hl : ∀ x ∈ l, 0 ≤ x ∧ x < 8) (hn : l.Nodup) : setN l < 256 ∧ ∀ b : Nat, b < 8 → (setN l).testBit b = decide ((b : Int) ∈ l) := by
  induction l with
  | nil => simp [setN]
  | cons x r ih =>
    have hx := hl x (by simp)
    have ⟨h1, h2⟩ := ih (fun y hy => hl y (by simp [hy])) (List.nodup_cons.1 hn).2
    have hxr := (List.nodup_cons.1 hn).1
    have hf : (setN r).testBit x.toNat = false := by
      rw [h2 _ (by omega), Int.toNat_of_nonneg hx.1]; simpa using hxr
    refine ⟨bit_add_lt _ h1 _ (by omega) hf, fun b hb => ?_⟩
    simp only [setN]
    rw [bit_add _ h1 _ (by omega) hf b hb, h2 b hb]
    have e : (x.toNat == b) = decide ((b : Int) = x) := by rw [Bool.eq_iff_iff]; simp; omega
    rw [e]
    by_cases e1 : (b : Int) = x <;> by_cases e2 : (b : Int) ∈ r <;> simp [e1, e2]
theorem setN_pos (l : List Int) : 0 < setN l ↔ l ≠ [] := by
  cases l with
  | nil => simp [setN]
  | cons x r => simp [setN]; have := Nat.two_pow_pos x.toNat; omega

/-- Who goes on. -/
def game (xs : List Int) (a b : Int) : Int := if a < 0 ∨ 0 ≤ b ∧ bts xs b.toNat a.toNat then b else a
def nextR (xs : List Int) : List Int → List Int
  | a :: b :: r => game xs a b :: nextR xs r
  | _ => []
theorem nextR_len (xs : List Int) : ∀ br : List Int, (nextR xs br).length = br.length / 2
  | [] => rfl
  | [_] => by simp [nextR]
  | a :: b :: r => by simp only [nextR, List.length_cons, nextR_len xs r]; omega
theorem nextR_get (xs : List Int) : ∀ (br : List Int) (k : Nat) (a b : Int), br[2 * k]? = some a → br[2 * k + 1]? = some b → (nextR xs br)[k]? = some (game xs a b)
  | [], k, a, b => by simp
  | [_], k, a, b => by simp
  | x :: y :: r, k, a, b => by
    cases k with
    | zero => simp [nextR]; rintro rfl rfl; rfl
    | succ k =>
      simp only [nextR, List.getElem?_cons_succ, show 2 * (k + 1) = 2 * k + 1 + 1 from by omega]
      exact nextR_get xs r k a b
theorem nextR_take (xs : List Int) {br : List Int} {k : Nat} {a b : Int} (h1 : br[2 * k]? = some a) (h2 : br[2 * k + 1]? = some b) : (nextR xs br).take (k + 1) = (nextR xs br).take k ++ [game xs a b] :=
  take_snoc_of (nextR_get xs br k a b h1 h2)
theorem game_or (xs : List Int) (a b : Int) : game xs a b = a ∨ game xs a b = b := by unfold game; split <;> simp
theorem nextR_mem (xs : List Int) : ∀ (br : List Int) (x : Int), x ∈ nextR xs br → x ∈ br
  | [], x, h => by simp [nextR] at h
  | [_], x, h => by simp [nextR] at h
  | a :: b :: r, x, h => by
    simp only [nextR, List.mem_cons] at h
    rcases h with rfl | h
    · rcases game_or xs a b with e | e <;> simp [e]
    · have := nextR_mem xs r x h; simp [this]
theorem game_sub (xs : List Int) (a b : Int) : (plrs [game xs a b]).Sublist (plrs [a, b]) := by
  have h1 : [a].Sublist [a, b] := by simp
  have h2 : [b].Sublist [a, b] := by simp
  rcases game_or xs a b with e | e <;> rw [e]
  · exact h1.filter _
  · exact h2.filter _
theorem nextR_sub (xs : List Int) : ∀ br : List Int, (plrs (nextR xs br)).Sublist (plrs br)
  | [] => by simp [nextR]
  | [_] => by simp [nextR, plrs]
  | a :: b :: r => by
    have e1 : plrs (nextR xs (a :: b :: r)) = plrs [game xs a b] ++ plrs (nextR xs r) := by simp only [nextR, plrs]; rw [← List.filter_append]; rfl
    have e2 : plrs (a :: b :: r) = plrs [a, b] ++ plrs r := by simp only [plrs]; rw [← List.filter_append]; rfl
    rw [e1, e2]
    exact (game_sub xs a b).append (nextR_sub xs r)
theorem game_some (xs : List Int) (a b : Int) (h : 0 ≤ a ∨ 0 ≤ b) : 0 ≤ game xs a b := by
  unfold game; split <;> omega
theorem nextR_some (xs : List Int) : ∀ br : List Int, br.length % 2 = 0 → plrs br ≠ [] → plrs (nextR xs br) ≠ []
  | [], _, h => h
  | [_], h, _ => by simp at h
  | a :: b :: r, hl, h => by
    rw [ne_nil_mem] at h ⊢
    obtain ⟨x, hx⟩ := h
    simp only [mem_plrs, List.mem_cons] at hx
    simp only [mem_plrs, nextR, List.mem_cons]
    rcases hx with ⟨e | e | hx, h0⟩
    · subst e; exact ⟨_, .inl rfl, game_some _ _ _ (.inl h0)⟩
    · subst e; exact ⟨_, .inl rfl, game_some _ _ _ (.inr h0)⟩
    · have := nextR_some xs r (by simp at hl; omega) (ne_nil_mem.2 ⟨x, mem_plrs.2 ⟨hx, h0⟩⟩)
      rw [ne_nil_mem] at this
      obtain ⟨y, hy⟩ := this
      rw [mem_plrs] at hy
      exact ⟨y, .inr hy.1, hy.2⟩
/-- What every round of a bracket keeps. -/
def brk (s : Int) (br : List Int) : Prop := brkSize br.length ∧ (∀ x ∈ br, -1 ≤ x ∧ x ≤ s - 1) ∧ plrs br ≠ [] ∧ (plrs br).Nodup
theorem bracketOk_brk {s : Int} {xs br : List Int} (h : bracketOk s xs br) : brk s br := h.2
theorem brk_next {s : Int} {br : List Int} (xs : List Int) (h : brk s br) (h1 : 1 < br.length) : brk s (nextR xs br) := by
  obtain ⟨hs, hb, hp, hn⟩ := h
  have hl := nextR_len xs br
  unfold brkSize at hs
  refine ⟨?_, fun x hx => hb x (nextR_mem xs br x hx), nextR_some xs br (by omega) hp, hn.sublist (nextR_sub xs br)⟩
  unfold brkSize; omega
theorem brk_len {s : Int} {br : List Int} (h : brk s br) : 1 ≤ br.length ∧ br.length ≤ 8 := by have := h.1; unfold brkSize at this; omega
def winner (xs : List Int) (br : List Int) : Int := if 1 < br.length then winner xs (nextR xs br) else br.getD 0 (-1)
termination_by br.length
decreasing_by rw [nextR_len]; omega
theorem winner_step {xs br : List Int} (h : 1 < br.length) : winner xs br = winner xs (nextR xs br) := by rw [winner, if_pos h]
theorem winner_end {xs br : List Int} (h : ¬ 1 < br.length) : winner xs br = br.getD 0 (-1) := by rw [winner, if_neg h]
def winnerOf (s : Int) (xs br : List Int) : Int := if bracketOk s xs br then winner xs br else -1
def nextRound (s : Int) (xs br : List Int) : List Int := if bracketOk s xs br ∧ ¬ br.length = 1 then nextR xs br else []
theorem nextRound_len (s : Int) (xs br : List Int) : (nextRound s xs br).length ≤ 4 := by
  unfold nextRound
  split
  · rename_i h; rw [nextR_len]; have := brk_len h.1.2; omega
  · simp

end Go.Proofs.Ytbaljgdepicigaa
