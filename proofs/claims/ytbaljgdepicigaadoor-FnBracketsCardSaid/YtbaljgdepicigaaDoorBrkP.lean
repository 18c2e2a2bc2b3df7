/-
  Plain facts of the law on brackets, as its walk asks for them. No program.
-/
import Derived.Test.YtbaljgdepicigaaDoorBase
import Derived.Test.YtbaljgdepicigaaDoorMgA
import Derived.Test.YtbaljgdepicigaaDoorMathV
import Derived.Test.YtbaljgdepicigaaDoorMathBk
import Derived.Test.YtbaljgdepicigaaDoorMathBs
import Derived.Test.YtbaljgdepicigaaDoorMgB
import Derived.Test.YtbaljgdepicigaaDoorMathBo
import Derived.Test.YtbaljgdepicigaaDoorMathBp
namespace Go.Proofs.YtbaljgdepicigaaDoor
set_option linter.unusedVariables false

theorem mono_iff {n : Nat} {xs : List Int} (ht : tourOk (n : Int) xs) : isMono (n : Int) xs ↔ monoT n xs := by
  have hl : xs.length = n := by have := tourOk_size ht; omega
  unfold isMono monoT
  rw [hl]
  exact ⟨fun h a b h1 h2 => h.2 a (by omega) b h2 h1, fun h => ⟨ht, fun a _ b h2 h1 => h a b h1 h2⟩⟩
/-- Games and players of the first k entries. -/
def gamT (xs br : List Int) (k : Nat) : Nat := ((br.take k).map fun x => (beaten xs x br).length).sum
def plyT (br : List Int) (k : Nat) : Nat := ((br.take k).map pN).sum
theorem gamT_snoc (xs : List Int) {br : List Int} {k : Nat} {x : Int} (h : br[k]? = some x) : gamT xs br (k + 1) = gamT xs br k + (beaten xs x br).length := by
  unfold gamT; rw [take_snoc_of h, List.map_append, List.sum_append]; simp
theorem plyT_snoc {br : List Int} {k : Nat} {x : Int} (h : br[k]? = some x) : plyT br (k + 1) = plyT br k + pN x := by
  unfold plyT; rw [take_snoc_of h, List.map_append, List.sum_append]; simp
theorem gam_le {s : Int} (xs : List Int) {br : List Int} (hk : brk s br) : ∀ k, k ≤ br.length → gamT xs br k ≤ 8 * k ∧ plyT br k ≤ k := by
  intro k
  have h8 := brk_len hk
  induction k with
  | zero => intro _; simp [gamT, plyT]
  | succ k ih =>
    intro h
    have hx : br[k]? = some (br[k]'(by omega)) := List.getElem?_eq_getElem _
    generalize br[k]'(by omega) = x at hx
    have := ih (by omega)
    have h1 := beaten_len xs x hk
    rw [gamT_snoc xs hx, plyT_snoc hx]
    have h2 : pN x ≤ 1 := by unfold pN; split <;> omega
    omega
theorem gam_end {s : Int} {xs br : List Int} (ht : tourOk s xs) (hk : brk s br) : (gamT xs br br.length : Int) = (plyT br br.length : Int) - 1 := by
  have h := games_all ht hk
  rw [plrs_sum] at h
  unfold gamT plyT
  rw [List.take_length]
  omega
/-- All that the law asks of a bracket. -/
structure BrkF (s : Int) (xs br : List Int) (r : Nat) : Prop where
  ok : bracketOk s xs br
  len : br.length = 2 ^ r
  r3 : r ≤ 3
  rnd : (2 ^ r = 1 ∧ r = 0) ∨ (2 ^ r = 2 ∧ r = 1) ∨ (2 ^ r = 4 ∧ r = 2) ∨ (2 ^ r = 8 ∧ r = 3)
  w0 : 0 ≤ winner xs br
  ws : winner xs br ≤ s - 1
  wm : winner xs br ∈ br
  bl : (beaten xs (winner xs br) br).length ≤ r
  bt : ∀ x ∈ beaten xs (winner xs br) br, 0 ≤ x ∧ x ≤ s - 1 ∧ bts xs (winner xs br).toNat x.toNat ∧ 1 ≤ meeting s xs br (winner xs br) x ∧ meeting s xs br (winner xs br) x = meeting s xs br x (winner xs br)
theorem brk_f {s : Int} {xs br : List Int} (h : bracketOk s xs br) : ∃ r, BrkF s xs br r := by
  have hk := bracketOk_brk h
  obtain ⟨r, hl, hr⟩ := brk_pow hk
  have hw := winB_mem xs hk
  have hwb := hk.2.1 _ hw.1
  refine ⟨r, ⟨h, hl, hr, ?_, hw.2, hwb.2, hw.1, beaten_rounds xs _ r hk hl, fun x hx => ?_⟩⟩
  · match r, hr with
    | 0, _ => exact .inl ⟨rfl, rfl⟩
    | 1, _ => exact .inr (.inl ⟨rfl, rfl⟩)
    | 2, _ => exact .inr (.inr (.inl ⟨rfl, rfl⟩))
    | 3, _ => exact .inr (.inr (.inr ⟨rfl, rfl⟩))
  · obtain ⟨k1, k2, k3, k4, k5, k6⟩ := beaten_facts hk hx
    have hxb := hk.2.1 x k4
    refine ⟨k2, hxb.2, k5, ?_, ?_⟩
    · rw [meeting_yes h k1 k2]; have := k6 1 (Nat.le_refl _); omega
    · rw [meeting_yes h k1 k2, meeting_yes h k2 k1, mtg_symm xs k1 k2 hk]
/-- One round of a bracket. -/
theorem round_f {s : Int} {xs br : List Int} {r i : Nat} (h : BrkF s xs br r) (hi : i < r) : bracketOk s xs (itR xs br i) ∧ (itR xs br i).length = 2 ^ (r - i) ∧ nextRound s xs (itR xs br i) = itR xs br (i + 1) ∧ (itR xs br (i + 1)).length * 2 = 2 ^ (r - i) ∧
    ∀ k x, (itR xs br (i + 1))[k]? = some x → ∃ a b, (itR xs br i)[2 * k]? = some a ∧ (itR xs br i)[2 * k + 1]? = some b ∧ (x = a ∨ x = b) := by
  have hk := bracketOk_brk h.ok
  obtain ⟨h1, h2, _⟩ := itR_facts (xs := xs) hk h.len i (by omega)
  obtain ⟨_, h3, _⟩ := itR_facts (xs := xs) hk h.len (i + 1) (by omega)
  have hp : 2 ^ (r - i) = 2 * 2 ^ (r - (i + 1)) := by
    rw [show r - i = (r - (i + 1)) + 1 by omega, Nat.pow_succ]; omega
  have hpos := Nat.two_pow_pos (r - (i + 1))
  have hok : bracketOk s xs (itR xs br i) := ⟨h.ok.1, h1⟩
  refine ⟨hok, h2, ?_, by omega, fun k x hx => ?_⟩
  · unfold nextRound
    rw [if_pos ⟨hok, by omega⟩]; rfl
  · have hkl := (List.getElem?_eq_some_iff.1 hx).1
    rw [h3] at hkl
    have ha : (itR xs br i)[2 * k]? = some ((itR xs br i)[2 * k]'(by omega)) := List.getElem?_eq_getElem _
    have hb : (itR xs br i)[2 * k + 1]? = some ((itR xs br i)[2 * k + 1]'(by omega)) := List.getElem?_eq_getElem _
    generalize (itR xs br i)[2 * k]'(by omega) = a at ha
    generalize (itR xs br i)[2 * k + 1]'(by omega) = b at hb
    refine ⟨a, b, ha, hb, ?_⟩
    have h5 : (itR xs br (i + 1))[k]? = some (game xs a b) := nextR_get xs _ k a b ha hb
    rw [hx] at h5
    obtain rfl := Option.some.inj h5
    exact game_or xs a b
theorem round_end {s : Int} {xs br : List Int} {r : Nat} (h : BrkF s xs br r) : itR xs br r = [winner xs br] := by
  have hk := bracketOk_brk h.ok
  obtain ⟨h1, h2, h3⟩ := itR_facts (xs := xs) hk h.len r (Nat.le_refl _)
  rw [Nat.sub_self, Nat.pow_zero] at h2
  generalize itR xs br r = l at h2 h3
  match l, h2 with
  | [x], _ =>
    rw [winner_end (by simp)] at h3
    rw [← h3]; rfl
  | [], h2 => simp at h2
  | _ :: _ :: _, h2 => simp at h2

end Go.Proofs.YtbaljgdepicigaaDoor
