/-
  Plain facts on one club of a plan, as the law on travel asks for them. No program.
-/
import Derived.Test.YtbaljgdepicigaaBase
import Derived.Test.YtbaljgdepicigaaMathA
import Derived.Test.YtbaljgdepicigaaMathB
import Derived.Test.YtbaljgdepicigaaMathU
import Derived.Test.YtbaljgdepicigaaMathT
import Derived.Test.YtbaljgdepicigaaMathM
import Derived.Test.YtbaljgdepicigaaMathTr
import Derived.Test.YtbaljgdepicigaaMathTp
namespace Go.Proofs.Ytbaljgdepicigaa
set_option linter.unusedVariables false

/-- The way and the place behind j rounds of club k. -/
def wyT (rows far : List (List Int)) (k j : Nat) : Int × Nat := wayTo far (placesOf rows k ++ [(k : Int)]) k j
/-- The places away, as a set, behind j rounds; and how often away. -/
def stT (rows : List (List Int)) (k j : Nat) : Nat := setP (k : Int) ((placesOf rows k).take j)
def awT (rows : List (List Int)) (k j : Nat) : Nat := awP (k : Int) ((placesOf rows k).take j)
theorem wyT_zero (rows far : List (List Int)) (k : Nat) : wyT rows far k 0 = (0, k) := rfl
theorem stT_zero (rows : List (List Int)) (k : Nat) : stT rows k 0 = 0 := rfl
theorem awT_zero (rows : List (List Int)) (k : Nat) : awT rows k 0 = 0 := rfl
structure StepT (n : Nat) (rows far : List (List Int)) (k j x : Nat) : Prop where
  lt : x < n
  pl : (placesOf rows k)[j]? = some (x : Int)
  wy : wyT rows far k (j + 1) = ((wyT rows far k j).1 + at2 far (wyT rows far k j).2 x, x)
  same : x = k → stT rows k (j + 1) = stT rows k j ∧ awT rows k (j + 1) = awT rows k j
  new : x ≠ k → stT rows k (j + 1) = stT rows k j ||| 2 ^ x ∧ awT rows k (j + 1) = awT rows k j + 1
theorem step_t {n : Nat} {rows : List (List Int)} (far : List (List Int)) {k j : Nat} (hp : planOk (n : Int) rows) (hk : k < n) (hj : j < rows.length) : ∃ x, StepT n rows far k j x := by
  have hl := placesOf_len rows k
  have hx : (placesOf rows k)[j]? = some ((placesOf rows k)[j]'(by omega)) := List.getElem?_eq_getElem (by omega)
  generalize (placesOf rows k)[j]'(by omega) = y at hx
  have hb := placesOf_bound hp (k := k) (by omega) y (List.mem_of_getElem? hx)
  obtain ⟨x, rfl⟩ : ∃ x : Nat, y = (x : Int) := ⟨y.toNat, by omega⟩
  have hg : (placesOf rows k ++ [(k : Int)]).getD j 0 = (x : Int) := by
    rw [List.getD_eq_getElem?_getD, List.getElem?_append_left (by omega), hx]; rfl
  refine ⟨x, by omega, hx, ?_, fun e => ?_, fun e => ?_⟩
  · unfold wyT
    simp only [wayTo, hg, Int.toNat_natCast]
  · unfold stT awT
    rw [take_snoc_of hx, setP_snoc, awP_snoc, if_neg (by omega), if_neg (by omega)]
    exact ⟨rfl, rfl⟩
  · unfold stT awT
    rw [take_snoc_of hx, setP_snoc, awP_snoc, if_pos (by omega), if_pos (by omega), Int.toNat_natCast]
    exact ⟨rfl, rfl⟩
structure AtT (n : Nat) (rows far : List (List Int)) (k j : Nat) : Prop where
  w0 : 0 ≤ (wyT rows far k j).1 ∧ (wyT rows far k j).1 ≤ 40000
  at' : (wyT rows far k j).2 < n
  st : stT rows k j < 256
  aw : awT rows k j ≤ 36
theorem at_t {n : Nat} {rows far : List (List Int)} {k j : Nat} (hp : planOk (n : Int) rows) (hd : distOk (n : Int) far) (hn : n ≤ 8) (hk : k < n) (hj : j ≤ rows.length) : AtT n rows far k j := by
  have h1 := wayTo_bound hd (k := k) (by omega) (trip_places hp (k := k) (by omega)) j
  have h36 := hp.2.1
  have hpl := placesOf_bound hp (k := k) (by omega)
  refine ⟨⟨h1.1, ?_⟩, ?_, ?_, ?_⟩
  · have := h1.2.1; unfold wyT; omega
  · have := h1.2.2; unfold wyT; omega
  · have := setP_lt (k : Int) (l := (placesOf rows k).take j) (m := 8) fun x hx => by
      have := hpl x (List.mem_of_mem_take hx); omega
    exact this
  · have h1 : awT rows k j ≤ ((placesOf rows k).take j).length := List.countP_le_length
    rw [List.length_take] at h1
    omega
/-- What the law asks in the end. -/
structure EndT (n : Nat) (rows far : List (List Int)) (k : Nat) (S : Nat) (H d st tr T : Int) : Prop where
  trip : (wyT rows far k rows.length).1 + at2 far (wyT rows far k rows.length).2 k = d
  lowd : ¬ d < 2 * H
  st0 : ¬ st < 0
  tr0 : ¬ tr < 0
  both : ¬ (rows.length : Int) < st + tr
  aw : ¬ (awT rows k rows.length : Int) < tr
  l1 : ¬ T < 2 * H
  l2 : ¬ d < T
  l3 : ¬ 4 * H < T
  hb : 0 ≤ H ∧ H ≤ 1000
  stb : st ≤ 36
  trb : tr ≤ 36
theorem high_le {n : Int} {far : List (List Int)} (hd : distOk n far) (k S : Nat) : ∀ j, highTo far k S j ≤ 1000 := by
  intro j
  induction j with
  | zero => simp [highTo]
  | succ j ih =>
    simp only [highTo]
    have := at2_bound hd k j
    split <;> omega
theorem end_t {n : Nat} {rows : List (List Int)} {l : List Int} {k : Nat} (hp : planOk (n : Int) rows) (hl : l.length = n) (hb : ∀ x ∈ l, 0 ≤ x ∧ x ≤ 1000) (hk : k < n) (hn : n ≤ 8) :
    EndT n rows (lineFar l) k (stT rows k rows.length) (highTo (lineFar l) k (stT rows k rows.length) n) (trip (n : Int) rows (lineFar l) (k : Int)) (longest homeAt (n : Int) rows (k : Int)) (longest awayAt (n : Int) rows (k : Int)) (leastTour (n : Int) (lineFar l) (k : Int) (stT rows k rows.length : Int)) := by
  have ht := trav_ok hp hl hb hk
  have hm := line_dist (l := l) hp.1 (by rw [hl]) hb
  have hpl := placesOf_len rows k
  have e1 : (placesOf rows k).take rows.length = placesOf rows k := List.take_of_length_le (by omega)
  have eS : stT rows k rows.length = setP (k : Int) (placesOf rows k) := by unfold stT; rw [e1]
  have eA : awT rows k rows.length = awP (k : Int) (placesOf rows k) := by unfold awT; rw [e1]
  have hof : ofPlan (n : Int) rows (k : Int) := ⟨hp, by omega, by omega⟩
  have ed : trip (n : Int) rows (lineFar l) (k : Int) = tripOf rows (lineFar l) k := by unfold trip; rw [if_pos ⟨hof, hm.1⟩, Int.toNat_natCast]
  have es : longest homeAt (n : Int) rows (k : Int) = (runs (homeAt k) rows rows.length).1 := by unfold longest; rw [if_pos hof, Int.toNat_natCast]
  have et : longest awayAt (n : Int) rows (k : Int) = (runs (awayAt k) rows rows.length).1 := by unfold longest; rw [if_pos hof, Int.toNat_natCast]
  have hplb := placesOf_bound hp (k := k) (by omega)
  have hbit := setP_bit (k : Int) (placesOf rows k) (fun x hx => (hplb x hx).1)
  have hSn : setP (k : Int) (placesOf rows k) < 2 ^ n := setP_lt (k : Int) hplb
  have hkb : ¬ (setP (k : Int) (placesOf rows k) : Int) / 2 ^ k % 2 = 1 := by
    intro e
    have h2 : bitAt (setP (k : Int) (placesOf rows k) : Int) k = 1 := e
    rw [bitAt_iff, hbit, decide_eq_true_eq] at h2
    exact h2.2 rfl
  have eT : leastTour (n : Int) (lineFar l) (k : Int) (stT rows k rows.length : Int) = tour (lineFar l) k k (setP (k : Int) (placesOf rows k)) := by
    rw [eS]
    unfold leastTour
    rw [if_pos]
    · rw [Int.toNat_natCast, Int.toNat_natCast]
    · refine ⟨hm.1, ⟨by omega, by omega⟩, ⟨by omega, ?_⟩, ?_⟩
      · rw [Int.toNat_natCast]
        have h3 : ((setP (k : Int) (placesOf rows k) : Nat) : Int) < ((2 ^ n : Nat) : Int) := Int.ofNat_lt.2 hSn
        rw [Int.natCast_pow] at h3
        have h4 : ((2 : Nat) : Int) = 2 := rfl
        rw [h4] at h3
        omega
      · rw [Int.toNat_natCast]; exact hkb
  have h36 := hp.2.1
  have b1 := runs_bound (homeAt k) rows rows.length
  have b2 := runs_bound (awayAt k) rows rows.length
  have hh := (highTo_is (lineFar l) k (setP (k : Int) (placesOf rows k)) n).1
  have hh2 := high_le hm.1 k (setP (k : Int) (placesOf rows k)) n
  rw [eT, ed, es, et, eS]
  have q1 := ht.low
  have q2 := ht.stay
  have q3 := ht.both
  have q4 := ht.aw
  have q5 := ht.l1
  have q6 := ht.l2
  have q7 := ht.l3
  exact {
    trip := by
      unfold tripOf wyT
      simp only [wayTo]
      have hg : (placesOf rows k ++ [(k : Int)]).getD rows.length 0 = (k : Int) := by
        rw [List.getD_eq_getElem?_getD, List.getElem?_append_right (by omega), hpl]; simp
      rw [hg, Int.toNat_natCast]
    lowd := by omega
    st0 := by omega
    tr0 := by omega
    both := by omega
    aw := by rw [eA]; omega
    l1 := by omega
    l2 := by omega
    l3 := by omega
    hb := ⟨hh, hh2⟩
    stb := by omega
    trb := by omega }
theorem travel_end {n : Nat} {rows far : List (List Int)} (hp : planOk (n : Int) rows) (hd : distOk (n : Int) far) : travel (n : Int) rows far = travelTo rows far n := by
  unfold travel; rw [if_pos ⟨hp, hd⟩, Int.toNat_natCast]
theorem travel_step {n : Nat} {rows far : List (List Int)} {k : Nat} (hp : planOk (n : Int) rows) (hd : distOk (n : Int) far) (hk : k < n) : travelTo rows far (k + 1) = travelTo rows far k + trip (n : Int) rows far (k : Int) := by
  unfold trip; rw [if_pos ⟨⟨hp, by omega, by omega⟩, hd⟩, Int.toNat_natCast]; rfl
theorem places_end {n : Nat} {rows : List (List Int)} {k : Nat} (hp : planOk (n : Int) rows) (hk : k < n) : places (n : Int) rows (k : Int) = placesOf rows k := by
  unfold places; rw [if_pos ⟨hp, by omega, by omega⟩, Int.toNat_natCast]
/-- Four clubs on a line. -/
theorem four_line : leastTour 4 (lineFar [0, 7, 3, 10]) 0 14 = 20 ∧ leastTour 4 (lineFar [0, 7, 3, 10]) 1 13 = 20 := by
  have hd : distOk 4 (lineFar [0, 7, 3, 10]) := by decide
  unfold leastTour
  rw [if_pos ⟨hd, by decide⟩, if_pos ⟨hd, by decide⟩]
  exact line_least

end Go.Proofs.Ytbaljgdepicigaa
