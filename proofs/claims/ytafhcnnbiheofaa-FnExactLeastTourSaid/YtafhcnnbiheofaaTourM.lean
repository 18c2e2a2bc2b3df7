/-
  Contract of the reference's shortest tour.
-/
import Derived.Laws.ShiftsVar
import Derived.Deep.RegionHeld3
import Derived.Test.YtafhcnnbiheofaaBase
import Derived.Test.YtafhcnnbiheofaaMathA
import Derived.Test.YtafhcnnbiheofaaMathD
import Derived.Test.YtafhcnnbiheofaaLib
import Derived.Test.YtafhcnnbiheofaaAid
import Derived.Test.YtafhcnnbiheofaaStep
import Derived.Test.YtafhcnnbiheofaaGrid
import Derived.Test.YtafhcnnbiheofaaMathT
import Derived.Test.YtafhcnnbiheofaaMathM
import Derived.Test.YtafhcnnbiheofaaTen
namespace Go.Proofs.Ytafhcnnbiheofaa
open Go.RowKit
set_option linter.unusedVariables false

-- words of tours
/-- Distances as they lie: a row and a cell of it. -/
theorem far_cell {w : World} {A : Option Addr} {N c : Nat} {rows : List (List Int)} {n : Int} (h : Grid w A N c rows) (hd : distOk n rows) {a b : Nat} (ha : a < N) (hb : b < N) :
    ∃ b1 o1 b2 o2 d, A = some ⟨b1, o1, none⟩ ∧ w.cell? ⟨b1, o1 + a, none⟩ = some (.slice (some ⟨b2, o2, none⟩) N d) ∧ w.cell? ⟨b2, o2 + b, none⟩ = some (.int .i64 (at2 rows a b)) := by
  have hl := h.len
  obtain ⟨b1, o1, B, d, r, e, _, hr, hc, hi⟩ := h.get ha
  have hrl := dist_cell hd hr
  rw [hrl, hl] at hc hi
  obtain ⟨b2, o2, x, e2, _, hx, _, hcx⟩ := hi.get hb
  subst e2
  exact ⟨b1, o1, b2, o2, d, e, hc, by rw [hcx, at2_get hr hx]⟩
theorem take_els {set k : Nat} {p : Int} {f : Int → Int} (h : (els set)[k]? = some p) : minOf f ((els set).take (k + 1)) = if minOf f ((els set).take k) < 0 ∨ f p < minOf f ((els set).take k) then f p else minOf f ((els set).take k) := minOf_take f h
theorem leg_min_bound {n : Int} {rows : List (List Int)} (h : distOk n rows) (home at_ set k : Nat) (hs : set < 1024) : -1 ≤ minOf (legOf rows home at_ set) ((els set).take k) ∧ minOf (legOf rows home at_ set) ((els set).take k) ≤ 12000 := by
  have := minOf_bound (f := legOf rows home at_ set) (B := 12000) (by omega) ((els set).take k) fun p _ => leg_bound h home at_ set hs p
  exact ⟨this.1, this.2.1⟩
-- spec.l19Tour
set_option maxHeartbeats 200000 in
set_option maxRecDepth 100000 in
theorem l19_any (f : Nat) : ∀ (n : Int) (A : Option Addr) (N c : Nat) (rows : List (List Int)) (home at_ set : Nat) (w : World), distOk n rows → Grid w A N c rows → home < N → at_ < N → set < 1024 → (∀ b, set.testBit b = true → b < N) → pcT set = f →
    Calls Try.prog 68 #[.slice A N c, .int .i64 (home : Int), .int .i64 (at_ : Int), .int .i64 (set : Int)] w fun e w' => e = .returned (.int .i64 (tour rows home at_ set)) ∧ Ext w w' := by
  induction f with
  | zero =>
    intro n A N c rows home at_ set w hd h hh ha hs hb hf
    have hs0 := pcT_zero hs hf
    subst hs0
    obtain ⟨b1, o1, b2, o2, d, rfl, hc1, hc2⟩ := far_cell h hd ha hh
    have HT := hide (tour_zero rows home at_)
    have hhi : (home : Int) < (N : Int) := by omega
    have hai : (at_ : Int) < (N : Int) := by omega
    clear hd h hb hf hs
    go_enter Try.func68, Try.ntmps68
    go_wp2
    go_ret
    exact ⟨ret_int HT.out.symm, Ext.refl _⟩
  | succ f ih =>
    intro n A N c rows home at_ set w hd h hh ha hs hb hf
    have hs0 : set ≠ 0 := fun e => absurd (show pcT set = 0 by rw [e]; decide) (by omega)
    have hsi : ((set : Int) == 0) = false := by rw [beq_eq_false_iff_ne]; omega
    have HT := hide (tour_pos (far := rows) (home := home) (at_ := at_) hs hs0)
    have IH := hide (fun (p : Nat) (w' : World) (hE : Ext w w') (hp : p < 10) (hbt : set.testBit p = true) => ih n A N c rows home p (set - 2 ^ p) w' hd (h.ext hE) hh (hb p hbt) (Nat.lt_of_le_of_lt (Nat.sub_le _ _) hs) (fun b hb2 => hb b (by rw [take_bit hbt] at hb2; simp at hb2; exact hb2.1)) (by have := pcT_take hp hbt; omega))
    have HD := hide hd
    have HI := hide h
    have HB := hide hb
    have hai : (at_ : Int) < (N : Int) := by omega
    clear ih hd h hb hf hs0
    go_enter Try.func68, Try.ntmps68
    go_wp2_with (go_at_call 110; refine (l02List_ten set hs _).mono ?_; rintro e w1 ⟨B, d, rfl, hoB, hE1⟩)
    have HO := hide hoB.ints
    have HE1 := hide hE1
    clear hoB hE1
    have hm10 : (els set).length ≤ 10 := elTo_len set 10
    generalize hm : (els set).length = m at *
    have HM := hide hm
    clear hm
    go_loopw [9, 25] (fun l i wr => ∃ k : Nat, k ≤ m ∧ i = .int .i64 (k : Int) ∧ l = .int .i64 (minOf (legOf rows home at_ set) ((els set).take k)) ∧ Ext w1 wr) (fun _ i _ => m - (intOf i).toNat)
    case atStart => exact ⟨0, Nat.zero_le _, rfl, rfl, Ext.refl _⟩
    case round =>
      obtain ⟨k, hk, rfl, rfl, hE⟩ := hrel
      have HER := hide hE
      clear hE
      have hmb := leg_min_bound HD.out home at_ set k hs
      by_cases hlt : k < m
      · obtain ⟨b, off, x, rfl, hbl, hx, wx, hc⟩ := (HO.out.ext HER.out).get hlt
        obtain ⟨p, hp10, hpb, rfl⟩ := els_mem (List.mem_of_getElem? hx)
        have hpN := HB.out p hpb
        obtain ⟨b1, o1, b2, o2, d2, rfl, hc1, hc2⟩ := far_cell (HI.out.ext (HE1.out.trans HER.out)) HD.out ha hpN
        have HTK := hide (take_els (f := legOf rows home at_ set) hx)
        rw [leg_nat] at HTK
        have hdb := at2_bound HD.out at_ p
        have htb := tour_bound HD.out home p (set - 2 ^ p) (Nat.lt_of_le_of_lt (Nat.sub_le _ _) hs)
        have C := hide (show ∀ (w' : World) (v : Int), Ext wr w' → v = ((set - 2 ^ p : Nat) : Int) → Calls Try.prog 68 #[.slice (some ⟨b1, o1, none⟩) N c, .int .i64 (home : Int), .int .i64 (p : Int), .int .i64 v] w' fun e w'' => e = .returned (.int .i64 (tour rows home p (set - 2 ^ p))) ∧ Ext w' w'' from fun w' v hE' hv => by rw [hv]; exact IH.out p w' (HE1.out.trans (HER.out.trans hE')) hp10 hpb)
        have hsh := shl_ten p (by omega)
        have hle2 := bit_le hpb
        have hpi : (p : Int) < (N : Int) := by omega
        have hsub : (set : Int) - ((2 ^ p : Nat) : Int) = ((set - 2 ^ p : Nat) : Int) := by omega
        have HSH1 := hide (show IntKind.i64.wrap ((2 : Int) ^ p) = ((2 ^ p : Nat) : Int) by
          have h3 : ((2 ^ p : Nat) : Int) = (2 : Int) ^ p := by simp
          have h4 := hsh.2
          rw [← h3]
          generalize (2 : Nat) ^ p = z at *
          rw [IntKind.wrap_i64]; omega)
        have hsh2 := hsh.2
        have hwS0 : IntKind.i64.wrap ((set - 2 ^ p : Nat) : Int) = ((set - 2 ^ p : Nat) : Int) := by
          have hq : set - 2 ^ p < 1024 := Nat.lt_of_le_of_lt (Nat.sub_le _ _) hs
          generalize set - 2 ^ p = z at *
          rw [IntKind.wrap_i64]; omega
        have HWS := hide hwS0
        have HSUB := hide hsub
        clear hwS0 hsub
        have KS := hide (show ∀ w', Ext wr w' → (Ext wr w' ∧ w'.cell? ⟨b1, o1 + at_, none⟩ = some (.slice (some ⟨b2, o2, none⟩) N d2) ∧ w'.cell? ⟨b2, o2 + p, none⟩ = some (.int .i64 (at2 rows at_ p))) from fun w' hh => ⟨hh, hh.get hc1, hh.get hc2⟩)
        clear hx hpb hsh
        generalize tour rows home p (set - 2 ^ p) = T at *
        generalize at2 rows at_ p = D at *
        generalize (set - 2 ^ p : Nat) = S2 at *
        generalize (2 ^ p : Nat) = P2 at *
        generalize minOf (legOf rows home at_ set) ((els set).take k) = M at *
        have hwT : IntKind.i64.wrap (D + T) = D + T := by rw [IntKind.wrap_i64]; omega
        go_wp2
        go_region_held3 (fun w' => Ext wr w' ∧ w'.cell? ⟨b1, o1 + at_, none⟩ = some (.slice (some ⟨b2, o2, none⟩) N d2) ∧ w'.cell? ⟨b2, o2 + p, none⟩ = some (.int .i64 D))
          (first | exact KS.out _ (Ext.refl _) | exact KS.out _ (Ext.refl _).drew | exact KS.out _ ((Ext.refl _).drew.trans hE5))
          ((go_at_call 68; refine Calls.mono (C.out _ _ (Ext.refl _).drew (by rw [HSH1.out, HSUB.out, HWS.out])) ?_; rintro e w5 ⟨rfl, hE5⟩))
        have HE5 := hide (HER.out.trans ((Ext.refl _).drew.trans hE5))
        generalize IntKind.i64.wrap ((2 : Int) ^ p) = Z1 at *
        generalize IntKind.i64.wrap ((set : Int) - Z1) = Z2 at *
        clear HSH1
        generalize hX : D + T = X at *
        by_cases h1 : M < 0
        · rw [if_pos (.inl h1)] at HTK
          go_wp2
          go_roundw
          case rel => exact ⟨k + 1, by omega, by go_num, by rw [HTK.out], HE5.out⟩
          case measure => (simp [intOf] <;> omega)
        · by_cases h2 : X < M
          · rw [if_pos (.inr h2)] at HTK
            go_wp2
            go_roundw
            case rel => exact ⟨k + 1, by omega, by go_num, by rw [HTK.out], HE5.out⟩
            case measure => (simp [intOf] <;> omega)
          · rw [if_neg (by omega)] at HTK
            go_wp2
            go_roundw
            case rel => exact ⟨k + 1, by omega, by go_num, by rw [HTK.out], HE5.out⟩
            case measure => (simp [intOf] <;> omega)
      · have hke : k = m := by omega
        subst hke
        have HL := hide (show (els set).take k = els set from take_len HM.out)
        go_wp2
        go_ret
        exact ⟨ret_int (by rw [HT.out, HL.out]), HE1.out.trans HER.out⟩

end Go.Proofs.Ytafhcnnbiheofaa
