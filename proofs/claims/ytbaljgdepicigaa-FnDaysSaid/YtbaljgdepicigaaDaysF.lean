/-
  Contracts of the functions that tell which teams are idle on a day.
-/
import Derived.Laws.ShiftsVar
import Derived.Deep.RegionLaw
import Derived.Deep.QuietTactic
import Derived.Test.YtbaljgdepicigaaBase
import Derived.Test.YtbaljgdepicigaaMathA
import Derived.Test.YtbaljgdepicigaaMathD
import Derived.Test.YtbaljgdepicigaaLib
import Derived.Test.YtbaljgdepicigaaAid
import Derived.Test.YtbaljgdepicigaaStep
import Derived.Test.YtbaljgdepicigaaGrid
import Derived.Test.YtbaljgdepicigaaLibF
import Derived.Test.YtbaljgdepicigaaDays
import Derived.Test.YtbaljgdepicigaaMathG
import Derived.Test.YtbaljgdepicigaaDblA
import Derived.Test.YtbaljgdepicigaaDaysD
namespace Go.Proofs.Ytbaljgdepicigaa
open Go.RowKit
set_option linter.unusedVariables false

-- words of idle teams
/-- A row is put into its place anew. -/
theorem OwGH.put {w w1 : World} {lo hi : Nat} {A A' : Option Addr} {n c n' c' : Nat} {hs : List (Option Addr × Nat × Nat)} {rows : List (List Int)} {i : Nat} {x : Option Addr × Nat × Nat} {r r' : List Int} {b off : Nat}
    (h : OwGH w lo hi A n c hs rows) (hhi : hi ≤ w.heap.size) (hA : A = some ⟨b, off, none⟩) (hi : i < n) (hx : hs[i]? = some x) (hr : rows[i]? = some r)
    (hg : w.grownBy w1 (x.1.map (·.block))) (ho : OwI w1 lo A' n' c' r') (hat : A'.map (·.block) = x.1.map (·.block) ∨ A'.map (·.block) = some w.heap.size) :
    OwGH (w1.setCell ⟨b, off + i, none⟩ (.slice A' n' c')) lo w1.heap.size A n c (hs.set i (A', n', c')) (rows.set i r') := by
  have hz := hg.size
  have hs1 : (w1.setCell ⟨b, off + i, none⟩ (.slice A' n' c')).heap.size = w1.heap.size := by simp [World.setCell]
  have hbA : A.map (·.block) = some b := by rw [hA]; rfl
  have hb := h.top b hbA
  have hneb : ∀ (j : Nat) y s, hs[j]? = some y → rows[j]? = some s → y.1.map (·.block) ≠ some b := fun j y s hy hs' e => by
    rcases h.ne_row hy hs' with h1 | h1
    · exact h1 (hbA.trans e.symm)
    · rw [h1] at hbA; cases hbA
  have hA'b : A'.map (·.block) ≠ some b := fun e => by
    rcases hat with h1 | h1
    · exact hneb i x r hx hr (h1 ▸ e)
    · rw [h1] at e; simp at e; omega
  have hgs := grown_setCell w1 ⟨b, off + i, none⟩ (.slice A' n' c')
  have hil : i < hs.length := (List.getElem?_eq_some_iff.1 hx).1
  have hir : i < rows.length := (List.getElem?_eq_some_iff.1 hr).1
  have hrow : ∀ (j : Nat), j < hs.length → ∃ s, rows[j]? = some s := fun j hj => ⟨_, List.getElem?_eq_getElem (by rw [← h.hl]; exact hj)⟩
  have hget : ∀ (j : Nat) y, (hs.set i (A', n', c'))[j]? = some y → (j = i ∧ y = (A', n', c')) ∨ (j ≠ i ∧ hs[j]? = some y) := fun j y hy => by
    rw [List.getElem?_set] at hy
    by_cases e : i = j
    · subst e; rw [if_pos rfl, if_pos hil] at hy; cases hy; exact .inl ⟨rfl, rfl⟩
    · rw [if_neg e] at hy; exact .inr ⟨fun e2 => e e2.symm, hy⟩
  have hapx : ∀ (j : Nat) y, j ≠ i → hs[j]? = some y → y.1.map (·.block) ≠ A'.map (·.block) ∨ y.1 = none := fun j y hj hy => by
    obtain ⟨s, hs'⟩ := hrow j (List.getElem?_eq_some_iff.1 hy).1
    rcases hat with h1 | h1
    · rw [h1]; exact h.apart j i y x hj hy hx
    · refine .inl fun e => ?_
      rw [h1] at e
      have := (h.row j y s hy hs').top w.heap.size e
      omega
  refine ⟨?_, fun k hk => by rw [hbA] at hk; cases hk; omega, by simp [h.hl], fun j y s hy hs' => ?_, fun j k y z hjk hy hz' => ?_⟩
  · have h1 := (h.ow.grown hg (h.ne_row hx hr)).store hA hi (.slice A' n' c')
    rw [List.map_set]
    exact h1
  · rcases hget j y hy with ⟨rfl, rfl⟩ | ⟨hj, hy'⟩
    · rw [List.getElem?_set_self hir] at hs'
      cases hs'
      exact ⟨ho.grown hgs (.inl hA'b), fun k hk => (ho.block k hk).2⟩
    · rw [List.getElem?_set_ne (fun e => hj e.symm)] at hs'
      have h3 := h.row j y s hy' hs'
      refine ⟨(h3.ow.grown hg (h.apart j i y x hj hy' hx)).grown hgs (.inl (hneb j y s hy' hs')), fun k hk => ?_⟩
      have := h3.top k hk
      omega
  · rcases hget j y hy with ⟨rfl, rfl⟩ | ⟨hj, hy'⟩ <;> rcases hget k z hz' with ⟨rfl, rfl⟩ | ⟨hk, hz''⟩
    · exact absurd rfl hjk
    · rcases hapx k z hk hz'' with h1 | h1
      · exact .inl fun e => h1 e.symm
      · cases hA1 : A' with
        | none => exact .inr rfl
        | some a => exact .inl (by rw [h1]; simp)
    · exact hapx j y hj hy'
    · exact h.apart j k y z hjk hy' hz''
theorem OwGH.kept_ext {w w' : World} {lo hi : Nat} {A : Option Addr} {n c : Nat} {hs : List (Option Addr × Nat × Nat)} {rows : List (List Int)} (h : OwGH w lo hi A n c hs rows) (hE : Ext w w') (hh : hi ≤ w.heap.size) : OwGH w' lo w'.heap.size A n c hs rows := by
  have hz := hE.size
  have h1 := h.ext hE
  exact ⟨h1.ow, fun k hk => by have := h1.top k hk; omega, h1.hl, fun i x r hx hr => (h1.row i x r hx hr).mono (Nat.le_refl _) (by omega), h1.apart⟩
def idle (rows : List (List Int)) (days : List Int) (d : Int) : List (List Int) := if isSchedule rows days then [idleTo rows days 0 d 6, idleTo rows days 1 d 6] else []
/-- The rows while they grow: side k up to team t. -/
def midR (rows : List (List Int)) (days : List Int) (d : Int) (k t : Nat) : List (List Int) := (List.range 2).map fun s => if s < k then idleTo rows days s d 6 else if s = k then idleTo rows days s d t else []
theorem midR_len (rows : List (List Int)) (days : List Int) (d : Int) (k t : Nat) : (midR rows days d k t).length = 2 := by simp [midR]
theorem midR_get (rows : List (List Int)) (days : List Int) (d : Int) {k : Nat} (t : Nat) (hk : k < 2) : (midR rows days d k t)[k]? = some (idleTo rows days k d t) := by simp [midR, hk]
theorem midR_set (rows : List (List Int)) (days : List Int) (d : Int) {k : Nat} (t : Nat) (hk : k < 2) : (midR rows days d k t).set k (idleTo rows days k d (t + 1)) = midR rows days d k (t + 1) := by
  apply List.ext_getElem?
  intro i
  rw [List.getElem?_set, midR_len]
  by_cases e : k = i
  · subst e; rw [if_pos rfl, if_pos hk, midR_get _ _ _ _ hk]
  · have e' : ¬ i = k := fun h => e h.symm
    rw [if_neg e]
    by_cases hi : i < 2
    · simp [midR, hi, e']
    · simp [midR, hi]
theorem midR_next (rows : List (List Int)) (days : List Int) (d : Int) (k : Nat) : midR rows days d k 6 = midR rows days d (k + 1) 0 := by
  unfold midR
  refine List.map_congr_left fun s hs => ?_
  by_cases h1 : s < k
  · rw [if_pos h1, if_pos (by omega)]
  · rw [if_neg h1]
    by_cases h2 : s = k
    · rw [if_pos h2, if_pos (by omega)]
    · rw [if_neg h2, if_neg (by omega)]
      split <;> simp [idleTo]
theorem midR_end {rows : List (List Int)} {days : List Int} (d : Int) (h : isSchedule rows days) : midR rows days d 2 0 = idle rows days d := by
  unfold idle; rw [if_pos h]; rfl
theorem idle_tot (rows : List (List Int)) (days : List Int) (d : Int) : tot (idle rows days d) ≤ 12 ∧ (idle rows days d).length ≤ 2 := by
  unfold idle
  have h0 := idleTo_len rows days 0 d 6
  have h1 := idleTo_len rows days 1 d 6
  split <;> simp [tot] <;> omega
/-- The first rows. -/
def idleK (rows : List (List Int)) (days : List Int) (d : Int) (k : Nat) : List (List Int) := (List.range k).map fun s => idleTo rows days s d 6
-- impl.IdleTeams$1
theorem idle_pred (rows : List (List Int)) (s t : Nat) (w : World) (a b : Nat) (hr : ∀ r ∈ rows, r.length = 2) (hs : s < 2) (ha : w.cell? ⟨a, 0, none⟩ = some (.int .i64 (s : Int))) (hb : w.cell? ⟨b, 0, none⟩ = some (.int .i64 (t : Int))) :
    PredG 106 #[.pointer (some ⟨a, 0, none⟩), .pointer (some ⟨b, 0, none⟩)] (fun g => decide (g.getD s 0 = (t : Int))) rows w := by
  intro W B d r hr' hi hE
  have h2 := hr r hr'
  have ha' := hE.get ha
  have hb' := hE.get hb
  rw [h2] at hi ⊢
  obtain ⟨b3, o3, y, rfl, hb3, hy, wy, hcy⟩ := hi.get hs
  have hg : r.getD s 0 = y := by simp [List.getD, hy]
  have HG := hide hg
  have hsi : (s : Int) < 2 := by omega
  clear hi hy hg ha hb hE hr hr' h2
  by_cases e : y = (t : Int)
  · have hbe : (y == (t : Int)) = true := by simpa using e
    have HF := hide (show decide (r.getD s 0 = (t : Int)) = true from decide_eq_true (by rw [HG.out]; exact e))
    clear e
    go_enter Try.func106, Try.ntmps106
    go_wp2
    go_quiet (fail)
    try rw [hbe]
    go_wp2
    go_ret
    exact ⟨ret_bool HF.out.symm, (Ext.refl _).drewN _⟩
  · have hbe : (y == (t : Int)) = false := by simpa using e
    have HF := hide (show decide (r.getD s 0 = (t : Int)) = false from decide_eq_false (by rw [HG.out]; exact e))
    clear e
    go_enter Try.func106, Try.ntmps106
    go_wp2
    go_quiet (fail)
    try rw [hbe]
    go_wp2
    go_ret
    exact ⟨ret_bool HF.out.symm, (Ext.refl _).drewN _⟩
theorem set_self_get {rows : List (List Int)} {k : Nat} {r : List Int} (h : rows[k]? = some r) : rows.set k r = rows := by
  apply List.ext_getElem?
  intro i
  rw [List.getElem?_set]
  by_cases e : k = i
  · subst e; rw [if_pos rfl, if_pos (List.getElem?_eq_some_iff.1 h).1, h]
  · rw [if_neg e]
-- impl.IdleTeams
set_option maxHeartbeats 4000000 in
set_option maxRecDepth 100000 in
theorem iIdle_any (A : Option Addr) (n c : Nat) (rows : List (List Int)) (A2 : Option Addr) (n2 c2 : Nat) (days : List Int) (day : Int) (w : World) (h : Grid w A n c rows) (h2 : Ints w A2 n2 c2 days) :
    Calls Try.prog 37 #[.slice A n c, .slice A2 n2 c2, .int .i64 day] w (RetG w (idle rows days day)) := by
  have HI := hide h
  have HI2 := hide h2
  have HL := hide h.len
  have HL2 := hide h2.len
  by_cases hok : isSchedule rows days
  · have h18 : n ≤ 18 := by have := HL.out; have := hok.1.1; omega
    have hnn : n2 ≤ n := by have := hok.2.1; have := HL.out; have := HL2.out; omega
    have hn218 : n2 ≤ 18 := by omega
    have HR2 := hide (fun r hr => (hok.1.2 r hr).1)
    have HV := hide (midR_end day hok)
    have HK := hide hok
    clear h h2 hok
    have hmk : ∀ w : World, (Instr.makeSlice 36 (.int .i64 2) (.int .i64 2)).run Try.prog w = .ok (.slice (some ⟨w.heap.size, 0, none⟩) 2 2) (w.alloc (.cells (Array.replicate 2 (.slice none 0 0)) 23)) := run_make_gen (P := Try.prog) Try.underlying36 info_sl rfl 2 (by omega) (by omega)
    have hmf : ∀ (fn : Fn) (first cap : Array Value) (w : World), (Instr.makeFunc fn first cap).run Try.prog w = .ok (.func fn first cap) w := fun _ _ _ _ => rfl
    have eg : Enters Try.prog 106 := enters_of Try.func106 (by kernel_rfl) rfl
    have EG := hide eg; clear eg
    go_enter Try.func37, Try.ntmps37
    go_wp2_with (go_at_call 34; refine (iIsSchedule_any _ _ _ rows _ _ _ days _ HI.out HI2.out).mono ?_; rw [decide_eq_true HK.out]; rintro e w1 ⟨rfl, hE1⟩)
    have H0 := hide (show ∃ hs, OwGH (w1.alloc (.cells (Array.replicate 2 (.slice none 0 0)) 23)) w.heap.size (w1.alloc (.cells (Array.replicate 2 (.slice none 0 0)) 23)).heap.size (some ⟨w1.heap.size, 0, none⟩) 2 2 hs (midR rows days day 0 0) from
      ⟨[(none, 0, 0), (none, 0, 0)], by simpa [sv] using (Ow.fill w1 (base := w.heap.size) (E := 23) (.slice none 0 0) 2 (by omega) hE1.size), fun k hk => by simp at hk; subst hk; simp, rfl, fun i x r hx hr => by
        match i with
        | 0 => simp [midR, List.range_succ, idleTo] at hx hr; subst hx hr; exact ⟨OwI.nil _ _, fun k hk => by cases hk⟩
        | 1 => simp [midR, List.range_succ, idleTo] at hx hr; subst hx hr; exact ⟨OwI.nil _ _, fun k hk => by cases hk⟩
        | i + 2 => simp at hx, fun i j x y _ hx _ => by
        match i with
        | 0 => simp at hx; subst hx; exact .inr rfl
        | 1 => simp at hx; subst hx; exact .inr rfl
        | i + 2 => simp at hx⟩)
    have HE1 := hide (hE1.trans (Ext.one w1 (.cells (Array.replicate 2 (.slice none 0 0)) 23)))
    clear hE1
    go_wp2
    generalize hB0 : w1.heap.size = B0 at *
    clear hB0
    go_loopw [18] (fun i wr => ∃ k : Nat, k ≤ 2 ∧ i = .int .i64 (k : Int) ∧ Hid (∃ hs, OwGH wr w.heap.size wr.heap.size (some ⟨B0, 0, none⟩) 2 2 hs (midR rows days day k 0)) ∧ Ext w wr) (fun i _ => 2 - (intOf i).toNat)
    case atStart => exact ⟨0, by omega, rfl, H0, HE1.out⟩
    case round =>
      obtain ⟨k, hk, rfl, HG, hE⟩ := hrel
      have HER := hide hE
      clear hE
      by_cases hlt : k < 2
      · have hk2 : (k : Int) < 2 := by omega
        go_wp2
        obtain ⟨wb, hwb⟩ : ∃ wb : World, wb = wr.alloc (.cells #[.int .i64 (k : Int)] 3) := ⟨_, rfl⟩
        have HEb := hide (show Ext w wb by rw [hwb]; exact HER.out.trans (Ext.one _ _))
        have b8 : wb.cell? ⟨wr.heap.size, 0, none⟩ = some (.int .i64 (k : Int)) := by rw [hwb]; simp
        have HGb := hide (show ∃ hs x, OwGH wb w.heap.size wb.heap.size (some ⟨B0, 0, none⟩) 2 2 hs (midR rows days day k 0) ∧ hs[k]? = some x ∧ Ap (some wr.heap.size) (bl x.1) from by
          obtain ⟨hs, hgh⟩ := HG.out
          have hkl : k < hs.length := by rw [hgh.hl, midR_len]; exact hlt
          refine ⟨hs, hs[k], by rw [hwb]; exact hgh.kept_ext (Ext.one _ _) (Nat.le_refl _), List.getElem?_eq_getElem hkl, fun q e e2 => ?_⟩
          cases e
          have := (hgh.row k _ _ (List.getElem?_eq_getElem hkl) (midR_get rows days day 0 hlt)).top _ e2
          omega)
        have hBs : B0 < wr.heap.size := by obtain ⟨hs, hgh⟩ := HG.out; exact hgh.top B0 rfl
        rw [← hwb]
        clear hwb HER HG
        generalize wr.heap.size = sb at *
        go_loopw [21] (fun i wr => ∃ t : Nat, t ≤ 6 ∧ i = .int .i64 (t : Int) ∧ Hid (∃ hs x, OwGH wr w.heap.size wr.heap.size (some ⟨B0, 0, none⟩) 2 2 hs (midR rows days day k t) ∧ hs[k]? = some x ∧ Ap (some sb) (bl x.1)) ∧ wr.cell? ⟨sb, 0, none⟩ = some (.int .i64 (k : Int)) ∧ Ext w wr) (fun i _ => 6 - (intOf i).toNat)
        case atStart => exact ⟨0, by omega, rfl, HGb, b8, HEb.out⟩
        case round =>
          obtain ⟨t, ht, rfl, HG, hb8, hE⟩ := hrel
          have HER := hide hE
          clear hE b8 HGb
          by_cases htl : t < 6
          · have HE1t := hide (Ext.one wr (.cells #[.int .i64 (t : Int)] 3))
            have hc8 := HE1t.out.get hb8
            have hc9 : (wr.alloc (.cells #[.int .i64 (t : Int)] 3)).cell? ⟨wr.heap.size, 0, none⟩ = some (.int .i64 (t : Int)) := by simp
            have HPR := hide (idle_pred rows k t _ sb wr.heap.size HR2.out hlt hc8 hc9)
            have HET := hide (HER.out.trans HE1t.out)
            have CG := hide (fun (w' : World) (hE' : Ext w w') => iGameOn_any A n c rows A2 n2 c2 days k (t : Int) day w' (HI.out.ext hE') (HI2.out.ext hE') HR2.out hlt hnn hn218)
            by_cases hpl : teamPlays rows k (t : Int) = true
            · by_cases hf : fnd rows days k (t : Int) day < 0
              · have HID := hide (idleTo_yes (rows := rows) (days := days) (s := k) (d := day) (k := t) (by unfold idleAt; rw [hpl, decide_eq_true hf]; rfl))
                have HPL := hide hpl
                unfold teamPlays at HPL
                clear hpl
                generalize fnd rows days k (t : Int) day = F at *
                go_wp2_with (first
                  | (go_at_call 104; refine (ContainsFuncG_any _ _ (fun g => decide (g.getD k 0 = (t : Int))) EG.out _ _ _ rows _ (HI.out.ext HET.out) HPR.out).mono ?_; rw [HPL.out]; rintro e w3 ⟨rfl, hE3⟩; have d8 := hE3.get hc8; have d9 := hE3.get hc9)
                  | (go_at_call 102; refine (CG.out _ (HET.out.trans hE3)).mono ?_; rintro e w' ⟨rfl, rfl⟩))
                have HE4 := hide (HE1t.out.trans hE3)
                obtain ⟨hs, x, h1, h2, h3⟩ := HG.out
                obtain ⟨A1, m1, d1⟩ := x
                obtain ⟨wq, hwq⟩ : ∃ wq : World, wq = (w3.alloc (.cells #[.int .i64 (t : Int)] 3)).drew := ⟨_, rfl⟩
                have HEq := hide (show Ext w3 wq by rw [hwq]; exact ((Ext.refl w3).alloc _).drew)
                have HGx := hide (h1.kept_ext (HE4.out.trans HEq.out) (Nat.le_refl _))
                have HX2 := hide h2
                have HAp := hide h3
                have HRW : Hid (InI wq w.heap.size wq.heap.size A1 m1 d1 (idleTo rows days k day t)) := hide (HGx.out.row k _ _ h2 (midR_get rows days day t hlt))
                have hm1 : m1 ≤ 6 := by have := HRW.out.ow.len; have := idleTo_len rows days k day t; omega
                have HLI := hide (show OwI wq 0 (some ⟨w3.heap.size, 0, none⟩) 1 1 [(t : Int)] by rw [hwq]; exact (ints_lit1 w3 (base := 0) (t : Int) ⟨by omega, by omega⟩ (Nat.zero_le _)).ext (Ext.refl _).drew)
                have hne8 : some sb ≠ A1.map (·.block) := fun e => h3 sb rfl e.symm
                have hneB : some B0 ≠ A1.map (·.block) := by
                  rcases HGx.out.ne_row h2 (midR_get rows days day t hlt) with h | h
                  · exact h
                  · cases h
                have hout : w3.cell? ⟨B0, k, none⟩ = some (.slice A1 m1 d1) := by
                  have hv : (hs.map sv)[k]? = some (.slice A1 m1 d1) := by rw [List.getElem?_map, h2]; rfl
                  have := ((h1.ow.ext HE4.out).rd.at_ (by omega))
                  obtain ⟨b, off, e, _, hcell⟩ := this
                  cases e
                  simpa using hcell k _ hv
                have HBS := hide (HGx.out.ow.block B0 rfl).1
                have hsb : sb < w3.heap.size := World.block_lt_of_cell? w3 ⟨sb, 0, none⟩ d8
                have HWQ := hide hwq
                have hB0 : B0 < w3.heap.size := World.block_lt_of_cell? w3 ⟨B0, k, none⟩ hout
                have htb : wr.heap.size < w3.heap.size := World.block_lt_of_cell? w3 ⟨wr.heap.size, 0, none⟩ d9
                have hbz : w.heap.size ≤ wq.heap.size := by have := HER.out.size; have := HE4.out.size; have := HEq.out.size; omega
                clear hE3 HG h1 h2 h3 hwq
                go_region_law (refine step_push_ints (base := w.heap.size) rfl (.tmp 42) (.tmp 44) rfl rfl (show OwI ((w3.alloc (.cells #[.int .i64 (t : Int)] 3)).drew) w.heap.size A1 m1 d1 (idleTo rows days k day t) by rw [← HWQ.out]; exact HRW.out.ow) (some ⟨w3.heap.size, 0, none⟩) 1 1 [(t : Int)] rfl (by rw [← HWQ.out]; exact HLI.out.ints) (by omega) (by rw [← HWQ.out]; exact hbz) ?_; intro A6 c6 w6 hb6 hg6 hat6; have HB6 := hide hb6; have HG6 : Hid (wq.grownBy w6 (A1.map (·.block))) := hide (by rw [HWQ.out]; exact hg6); have HAT6 : Hid (A6.map (·.block) = A1.map (·.block) ∨ A6.map (·.block) = some wq.heap.size) := hide (by rw [HWQ.out]; exact hat6); have f8 := HG6.out.cell (HEq.out.get d8) hne8; obtain ⟨bq, oq, vq, eq, _, _, _, fo, ff⟩ := (HGx.out.ow.grown HG6.out (.inl hneB)).get hlt; cases eq; simp only [Nat.zero_add] at fo ff; clear hb6 hg6 hat6)
                all_goals (try go_wp2)
                all_goals (
                  have HP := hide (HGx.out.put (Nat.le_refl _) rfl hlt HX2.out (midR_get rows days day t hlt) HG6.out HB6.out HAT6.out)
                  rw [Nat.zero_add] at HP
                  have HE7 := hide (((HER.out.trans (HE4.out.trans HEq.out)).grown HG6.out (fun q hq => (HRW.out.ow.block q hq).1)).setCell (p := ⟨B0, k, none⟩) HBS.out (.slice A6 (m1 + 1) c6))
                  have HG7 := hide (show ∃ hs x, OwGH (w6.setCell ⟨B0, k, none⟩ (.slice A6 (m1 + 1) c6)) w.heap.size (w6.setCell ⟨B0, k, none⟩ (.slice A6 (m1 + 1) c6)).heap.size (some ⟨B0, 0, none⟩) 2 2 hs (midR rows days day k (t + 1)) ∧ hs[k]? = some x ∧ Ap (some sb) (bl x.1) from by
                    refine ⟨_, (A6, m1 + 1, c6), ?_, List.getElem?_set_self (List.getElem?_eq_some_iff.1 HX2.out).1, fun q e e2 => ?_⟩
                    · rw [← midR_set rows days day t hlt, HID.out]
                      have e9 : (w6.setCell ⟨B0, k, none⟩ (.slice A6 (m1 + 1) c6)).heap.size = w6.heap.size := by simp [World.setCell]
                      rw [e9]
                      exact HP.out
                    · cases e
                      rcases HAT6.out with h | h
                      · exact HAp.out sb rfl (h.symm.trans e2)
                      · have h9 : some wq.heap.size = some sb := h.symm.trans e2
                        have := HEq.out.size
                        simp at h9
                        omega)
                  have g8 : (w6.setCell ⟨B0, k, none⟩ (.slice A6 (m1 + 1) c6)).cell? ⟨sb, 0, none⟩ = some (.int .i64 (k : Int)) := (grown_setCell w6 ⟨B0, k, none⟩ (.slice A6 (m1 + 1) c6)).cell f8 (by simp; omega)
                  go_roundw
                  case rel => exact ⟨t + 1, by omega, by go_num, HG7, g8, HE7.out⟩
                  case measure => (simp [intOf] <;> omega))
              · have HID := hide (idleTo_no (rows := rows) (days := days) (s := k) (d := day) (k := t) (by unfold idleAt; rw [decide_eq_false hf]; simp))
                have HPL := hide hpl
                unfold teamPlays at HPL
                clear hpl
                generalize fnd rows days k (t : Int) day = F at *
                go_wp2_with (first
                  | (go_at_call 104; refine (ContainsFuncG_any _ _ (fun g => decide (g.getD k 0 = (t : Int))) EG.out _ _ _ rows _ (HI.out.ext HET.out) HPR.out).mono ?_; rw [HPL.out]; rintro e w3 ⟨rfl, hE3⟩; have d8 := hE3.get hc8; have d9 := hE3.get hc9)
                  | (go_at_call 102; refine (CG.out _ (HET.out.trans hE3)).mono ?_; rintro e w' ⟨rfl, rfl⟩))
                have HE4 := hide (HE1t.out.trans hE3)
                have HG4 := hide (show ∃ hs x, OwGH w3 w.heap.size w3.heap.size (some ⟨B0, 0, none⟩) 2 2 hs (midR rows days day k (t + 1)) ∧ hs[k]? = some x ∧ Ap (some sb) (bl x.1) from by
                  obtain ⟨hs, x, h1, h2, h3⟩ := HG.out
                  exact ⟨hs, x, by rw [← midR_set rows days day t hlt, HID.out, set_self_get (midR_get rows days day t hlt)]; exact h1.kept_ext HE4.out (Nat.le_refl _), h2, h3⟩)
                clear hE3
                go_roundw
                case rel => exact ⟨t + 1, by omega, by go_num, HG4, d8, HER.out.trans HE4.out⟩
                case measure => (simp [intOf] <;> omega)
            · have HID := hide (idleTo_no (rows := rows) (days := days) (s := k) (d := day) (k := t) (by unfold idleAt; simp [hpl]))
              have HPL := hide (show teamPlays rows k (t : Int) = false by simpa using hpl)
              unfold teamPlays at HPL
              clear hpl
              go_wp2_with (go_at_call 104; refine (ContainsFuncG_any _ _ (fun g => decide (g.getD k 0 = (t : Int))) EG.out _ _ _ rows _ (HI.out.ext HET.out) HPR.out).mono ?_; rw [HPL.out]; rintro e w3 ⟨rfl, hE3⟩; have d8 := hE3.get hc8; have d9 := hE3.get hc9)
              have HE4 := hide (HE1t.out.trans hE3)
              have HG4 := hide (show ∃ hs x, OwGH w3 w.heap.size w3.heap.size (some ⟨B0, 0, none⟩) 2 2 hs (midR rows days day k (t + 1)) ∧ hs[k]? = some x ∧ Ap (some sb) (bl x.1) from by
                obtain ⟨hs, x, h1, h2, h3⟩ := HG.out
                exact ⟨hs, x, by rw [← midR_set rows days day t hlt, HID.out, set_self_get (midR_get rows days day t hlt)]; exact h1.kept_ext HE4.out (Nat.le_refl _), h2, h3⟩)
              clear hE3
              go_roundw
              case rel => exact ⟨t + 1, by omega, by go_num, HG4, d8, HER.out.trans HE4.out⟩
              case measure => (simp [intOf] <;> omega)
          · have hte : t = 6 := by omega
            subst hte
            have HG6 := hide (show ∃ hs, OwGH wr w.heap.size wr.heap.size (some ⟨B0, 0, none⟩) 2 2 hs (midR rows days day (k + 1) 0) from by
              obtain ⟨hs, x, h1, _⟩ := HG.out
              exact ⟨hs, by rw [← midR_next]; exact h1⟩)
            go_wp2
            go_roundw
            case rel => exact ⟨k + 1, by omega, by go_num, HG6, HER.out⟩
            case measure => (simp [intOf] <;> omega)
      · have hke : k = 2 := by omega
        subst hke
        go_wp2
        go_ret
        obtain ⟨hs, hgh⟩ := HG.out
        rw [HV.out] at hgh
        exact RetG.mk rfl ⟨hs, hgh⟩ HER.out
  · have HV := hide (show idle rows days day = [] from if_neg hok)
    have HK := hide hok
    clear h h2 hok
    go_enter Try.func37, Try.ntmps37
    go_wp2_with (go_at_call 34; refine (iIsSchedule_any _ _ _ rows _ _ _ days _ HI.out HI2.out).mono ?_; rw [decide_eq_false HK.out]; rintro e w1 ⟨rfl, hE1⟩)
    go_ret
    rw [HV.out]
    exact RetG.mk rfl (OwG.nil _ _ _) hE1

end Go.Proofs.Ytbaljgdepicigaa
