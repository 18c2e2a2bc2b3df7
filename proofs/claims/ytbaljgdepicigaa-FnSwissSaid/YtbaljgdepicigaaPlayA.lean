/-
  Plain lemmas on play by Swiss rounds.
-/
import Derived.Test.YtbaljgdepicigaaBase
import Derived.Test.YtbaljgdepicigaaMathA
import Derived.Test.YtbaljgdepicigaaMathD
import Derived.Test.YtbaljgdepicigaaLib
import Derived.Test.YtbaljgdepicigaaAid
import Derived.Test.YtbaljgdepicigaaStep
import Derived.Test.YtbaljgdepicigaaGrid
import Derived.Test.YtbaljgdepicigaaLibF
import Derived.Test.YtbaljgdepicigaaMathB
import Derived.Test.YtbaljgdepicigaaMathU
import Derived.Test.YtbaljgdepicigaaMathS
import Derived.Test.YtbaljgdepicigaaMathP
import Derived.Test.YtbaljgdepicigaaMathO
import Derived.Test.YtbaljgdepicigaaSwissB
import Derived.Test.YtbaljgdepicigaaSortA
import Derived.Test.YtbaljgdepicigaaWin
import Derived.Test.YtbaljgdepicigaaFillD
import Derived.Test.YtbaljgdepicigaaFillF
import Derived.Test.YtbaljgdepicigaaFillG
import Derived.Test.YtbaljgdepicigaaFillH
namespace Go.Proofs.Ytbaljgdepicigaa
open Go.RowKit
set_option linter.unusedVariables false

-- words
/-- Who met whom, when the first k of a pairing are told. -/
def metP (p met : List Int) (k : Nat) : List Int := (List.range met.length).map fun (a : Nat) => if a < k then met.getD a 0 + 2 ^ (p.getD a 0).toNat else met.getD a 0
/-- The points, when the first k of a pairing are told. -/
def ptsP (xs p pts : List Int) (k : Nat) : List Int := (List.range pts.length).map fun (a : Nat) => if a < k ∧ bts xs a (p.getD a 0).toNat then pts.getD a 0 + 1 else pts.getD a 0
theorem metP_len (p met : List Int) (k : Nat) : (metP p met k).length = met.length := by simp [metP]
theorem ptsP_len (xs p pts : List Int) (k : Nat) : (ptsP xs p pts k).length = pts.length := by simp [ptsP]
theorem map_getD (l : List Int) : (List.range l.length).map (fun a => l.getD a 0) = l := by
  refine List.ext_getElem? fun i => ?_
  rw [List.getElem?_map]
  by_cases hi : i < l.length
  · simp [hi]
  · rw [List.getElem?_eq_none (by simp; omega), List.getElem?_eq_none (by omega)]; rfl
theorem metP_zero (p met : List Int) : metP p met 0 = met := by
  unfold metP
  conv => rhs; rw [← map_getD met]
  exact List.map_congr_left fun a _ => if_neg (Nat.not_lt_zero _)
theorem ptsP_zero (xs p pts : List Int) : ptsP xs p pts 0 = pts := by
  unfold ptsP
  conv => rhs; rw [← map_getD pts]
  exact List.map_congr_left fun a _ => if_neg (fun h => Nat.not_lt_zero _ h.1)
theorem metP_get (p met : List Int) (k : Nat) {a : Nat} (h : a < met.length) : (metP p met k)[a]? = some (if a < k then met.getD a 0 + 2 ^ (p.getD a 0).toNat else met.getD a 0) := by simp [metP, h]
theorem ptsP_get (xs p pts : List Int) (k : Nat) {a : Nat} (h : a < pts.length) : (ptsP xs p pts k)[a]? = some (if a < k ∧ bts xs a (p.getD a 0).toNat then pts.getD a 0 + 1 else pts.getD a 0) := by simp [ptsP, h]
theorem metP_succ {p met : List Int} {k : Nat} (hk : k < met.length) : (metP p met k).set k (met.getD k 0 + 2 ^ (p.getD k 0).toNat) = metP p met (k + 1) := by
  refine List.ext_getElem? fun i => ?_
  rw [List.getElem?_set, metP_len]
  by_cases hi : i < met.length
  · rw [metP_get _ _ _ hi, metP_get _ _ _ hi]
    by_cases e : k = i
    · subst e; rw [if_pos rfl, if_pos hi, if_pos (by omega)]
    · rw [if_neg e]
      by_cases e2 : i < k
      · rw [if_pos e2, if_pos (by omega)]
      · rw [if_neg e2, if_neg (by omega)]
  · rw [if_neg (by omega), List.getElem?_eq_none (by rw [metP_len]; omega), List.getElem?_eq_none (by rw [metP_len]; omega)]
theorem ptsP_yes {xs p pts : List Int} {k : Nat} (hk : k < pts.length) (hb : bts xs k (p.getD k 0).toNat) : (ptsP xs p pts k).set k (pts.getD k 0 + 1) = ptsP xs p pts (k + 1) := by
  refine List.ext_getElem? fun i => ?_
  rw [List.getElem?_set, ptsP_len]
  by_cases hi : i < pts.length
  · rw [ptsP_get _ _ _ _ hi, ptsP_get _ _ _ _ hi]
    by_cases e : k = i
    · subst e; rw [if_pos rfl, if_pos hi, if_pos ⟨by omega, hb⟩]
    · rw [if_neg e]
      congr 1
      by_cases e2 : i < k ∧ bts xs i (p.getD i 0).toNat
      · rw [if_pos e2, if_pos ⟨by omega, e2.2⟩]
      · rw [if_neg e2, if_neg (fun h => e2 ⟨by omega, h.2⟩)]
  · rw [if_neg (by omega), List.getElem?_eq_none (by rw [ptsP_len]; omega), List.getElem?_eq_none (by rw [ptsP_len]; omega)]
theorem ptsP_no {xs p pts : List Int} {k : Nat} (hk : k < pts.length) (hb : ¬ bts xs k (p.getD k 0).toNat) : ptsP xs p pts k = ptsP xs p pts (k + 1) := by
  refine List.ext_getElem? fun i => ?_
  by_cases hi : i < pts.length
  · rw [ptsP_get _ _ _ _ hi, ptsP_get _ _ _ _ hi]
    congr 1
    by_cases e2 : i < k ∧ bts xs i (p.getD i 0).toNat
    · rw [if_pos e2, if_pos ⟨by omega, e2.2⟩]
    · rw [if_neg e2, if_neg]
      rintro ⟨h1, h2⟩
      by_cases e : i = k
      · subst e; exact hb h2
      · exact e2 ⟨by omega, h2⟩
  · rw [List.getElem?_eq_none (by rw [ptsP_len]; omega), List.getElem?_eq_none (by rw [ptsP_len]; omega)]
structure SwS where
  pts : List Int
  met : List Int
  rds : List (List Int)
/-- The state of play behind r rounds, and whether it goes on. -/
def stW (xs : List Int) : Nat → SwS × Bool
  | 0 => (⟨List.replicate xs.length 0, List.replicate xs.length 0, []⟩, true)
  | r + 1 => if (stW xs r).2 = true then
      match pairO (stW xs r).1.pts (stW xs r).1.met with
      | some p => (⟨ptsP xs p (stW xs r).1.pts xs.length, metP p (stW xs r).1.met xs.length, (stW xs r).1.rds ++ [p]⟩, true)
      | none => ((stW xs r).1, false)
    else ((stW xs r).1, false)
theorem stW_some {xs p : List Int} {r : Nat} (hg : (stW xs r).2 = true) (hp : pairO (stW xs r).1.pts (stW xs r).1.met = some p) :
    stW xs (r + 1) = (⟨ptsP xs p (stW xs r).1.pts xs.length, metP p (stW xs r).1.met xs.length, (stW xs r).1.rds ++ [p]⟩, true) := by
  simp only [stW, hg, if_true, hp]
theorem stW_none {xs : List Int} {r : Nat} (hg : (stW xs r).2 = true) (hp : pairO (stW xs r).1.pts (stW xs r).1.met = none) : ∀ m, stW xs (r + 1 + m) = ((stW xs r).1, false) := by
  intro m
  induction m with
  | zero => simp only [stW, hg, if_true, hp]
  | succ m ih => rw [← Nat.add_assoc]; simp only [stW]; simp only [ih]; simp
theorem stW_stop {xs : List Int} {r n : Nat} (hg : (stW xs r).2 = true) (hp : pairO (stW xs r).1.pts (stW xs r).1.met = none) (hn : r ≤ n) : (stW xs n).1 = (stW xs r).1 := by
  by_cases e : n = r
  · rw [e]
  · obtain ⟨m, rfl⟩ : ∃ m, n = r + 1 + m := ⟨n - (r + 1), by omega⟩
    rw [stW_none hg hp m]
theorem stW_len (xs : List Int) (r : Nat) : (stW xs r).1.pts.length = xs.length ∧ (stW xs r).1.met.length = xs.length ∧ (stW xs r).1.rds.length ≤ r ∧ ((stW xs r).2 = true → (stW xs r).1.rds.length = r) := by
  induction r with
  | zero => simp [stW]
  | succ r ih =>
    obtain ⟨h1, h2, h3, h4⟩ := ih
    by_cases hg : (stW xs r).2 = true
    · cases hp : pairO (stW xs r).1.pts (stW xs r).1.met with
      | none => rw [stW_none hg hp 0]; exact ⟨h1, h2, by show (stW xs r).1.rds.length ≤ r + 1; omega, fun h => by cases h⟩
      | some p => rw [stW_some hg hp]; exact ⟨by rw [ptsP_len]; exact h1, by rw [metP_len]; exact h2, by simp; omega, fun _ => by simp [h4 hg]⟩
    · simp only [stW, if_neg hg]; exact ⟨h1, h2, by omega, fun h => by cases h⟩
theorem pairO_ok {pts met p : List Int} (h : pairO pts met = some p) : swissOk pts met ∧ p ∈ pairingsO (orderO pts met.length) met ∧ pairsOk met.length p := by
  unfold pairO at h
  split at h
  · rename_i hs
    have hm : p ∈ pairingsO (orderO pts met.length) met := List.mem_of_mem_head? (by rw [h]; rfl)
    exact ⟨hs, hm, pairings_ok hs (ordOf_orderO _ _) p hm⟩
  · cases h
theorem pairO_new {pts met p : List Int} (h : pairO pts met = some p) {a : Nat} (ha : a < met.length) : ¬ bitAt (met.getD a 0) (p.getD a 0).toNat = 1 := by
  obtain ⟨hs, hm, _⟩ := pairO_ok h
  have := (mem_fillL (ordOf_orderO pts met.length) (swissOk_sym hs) _ _ (partP_start _) (nfree_start _) p).1 hm
  exact this.new a ha (by simp [List.getD, ha])
theorem stW_rds (xs : List Int) (r : Nat) : ∀ p ∈ (stW xs r).1.rds, pairsOk xs.length p := by
  induction r with
  | zero => intro p hp; simp [stW] at hp
  | succ r ih =>
    by_cases hg : (stW xs r).2 = true
    · cases hp : pairO (stW xs r).1.pts (stW xs r).1.met with
      | none => rw [stW_none hg hp 0]; exact ih
      | some p =>
        rw [stW_some hg hp]
        intro q hq
        rcases List.mem_append.1 hq with hq | hq
        · exact ih q hq
        · simp at hq
          have := (pairO_ok hp).2.2
          rw [(stW_len xs r).2.1] at this
          rw [hq]; exact this
    · simp only [stW, if_neg hg]; exact ih
def playOk (s : Int) (xs : List Int) (r : Int) : Prop := tourOk s xs ∧ ¬ s % 2 = 1 ∧ 0 ≤ r ∧ r ≤ 7
instance (s : Int) (xs : List Int) (r : Int) : Decidable (playOk s xs r) := by unfold playOk; infer_instance
def playPts (s : Int) (xs : List Int) (r : Int) : List Int := if playOk s xs r then (stW xs r.toNat).1.pts else []
def playRds (s : Int) (xs : List Int) (r : Int) : List (List Int) := if playOk s xs r then (stW xs r.toNat).1.rds else []
theorem or_small : ∀ m : Nat, m < 256 → ∀ b : Nat, b < 8 → m.testBit b = false → m ||| 2 ^ b = m + 2 ^ b := by decide +kernel
/-- A slice of ints and a grid come back, the slice's block ahead of the grid's. -/
def RetIG (w : World) (xs : List Int) (rows : List (List Int)) (e : Ending) (w' : World) : Prop := ∃ mid A c G g, e = .returned (.tuple #[.slice A xs.length c, .slice G rows.length g]) ∧ InI w' w.heap.size mid A xs.length c xs ∧ OwG w' mid w'.heap.size G rows.length g rows ∧ w.heap.size ≤ mid ∧ mid ≤ w'.heap.size ∧ Ext w w'
theorem OwG.same {w w' : World} {lo hi : Nat} {A : Option Addr} {n c : Nat} {rows : List (List Int)} (h : OwG w lo hi A n c rows) (hs : ∀ k, lo ≤ k → k < hi → w'.heap[k]? = w.heap[k]?) : OwG w' lo hi A n c rows := by
  obtain ⟨hs1, h⟩ := h
  exact ⟨hs1, ⟨h.ow.keep fun k hk => hs k (h.ow.block k hk).1 (h.top k hk), h.top, h.hl, fun i x r hx hr => ⟨⟨(h.row i x r hx hr).ow.ow.keep fun k hk => hs k ((h.row i x r hx hr).ow.block k hk).1 ((h.row i x r hx hr).top k hk), (h.row i x r hx hr).ow.wf⟩, (h.row i x r hx hr).top⟩, h.apart⟩⟩
theorem RetIG.empty {w w' : World} (hE : Ext w w') : RetIG w [] [] (.returned (.tuple #[.slice none 0 0, .slice none 0 0])) w' :=
  ⟨w.heap.size, none, 0, none, 0, rfl, ⟨OwI.nil _ _, fun k hk => by cases hk⟩, OwG.nil _ _ _, Nat.le_refl _, hE.size, hE⟩
/-- The first blocks of a world alone. -/
def headW (w : World) (n : Nat) : World := { w with heap := w.heap.extract 0 n }
theorem headW_size (w : World) {n : Nat} (h : n ≤ w.heap.size) : (headW w n).heap.size = n := by simp [headW]; omega
theorem headW_get (w : World) {n k : Nat} (h : n ≤ w.heap.size) (hk : k < n) : (headW w n).heap[k]? = w.heap[k]? := by
  show (w.heap.extract 0 n)[k]? = _
  rw [Array.getElem?_extract, if_pos (by omega), Nat.zero_add]
theorem headW_ext (w : World) {n : Nat} (h : n ≤ w.heap.size) : Ext (headW w n) w := ⟨rfl, rfl, rfl, by rw [headW_size w h]; exact h, fun k hk => by rw [headW_size w h] at hk; exact (headW_get w h hk).symm⟩
theorem OwI.same {w w' : World} {base : Nat} {A : Option Addr} {n c : Nat} {xs : List Int} (h : OwI w base A n c xs) (hs : ∀ k, A.map (·.block) = some k → w'.heap[k]? = w.heap[k]?) : OwI w' base A n c xs := ⟨h.ow.keep hs, h.wf⟩
theorem play_len (s : Int) (xs : List Int) (r : Int) : (playPts s xs r).length ≤ 8 ∧ (playRds s xs r).length ≤ 7 ∧ tot (playRds s xs r) ≤ 56 := by
  unfold playPts playRds
  by_cases h : playOk s xs r
  · rw [if_pos h, if_pos h]
    have h1 := stW_len xs r.toNat
    have h2 := tourOk_size h.1
    have h3 := h.2.2
    have h4 := tot_le (rows := (stW xs r.toNat).1.rds) (m := 8) fun p hp => by have := (stW_rds xs r.toNat p hp).1; omega
    have h5 : (stW xs r.toNat).1.rds.length * 8 ≤ 7 * 8 := Nat.mul_le_mul_right _ (by omega)
    omega
  · rw [if_neg h, if_neg h]; simp [tot]

end Go.Proofs.Ytbaljgdepicigaa
