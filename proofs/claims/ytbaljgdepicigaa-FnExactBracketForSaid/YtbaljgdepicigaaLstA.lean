/-
  The least bracket that a player wins: the reference's functions.
-/
import Derived.Deep.RegionHeld3
import Derived.Laws.ShiftsVar
import Derived.Test.YtbaljgdepicigaaBase
import Derived.Test.YtbaljgdepicigaaMathA
import Derived.Test.YtbaljgdepicigaaMathD
import Derived.Test.YtbaljgdepicigaaLib
import Derived.Test.YtbaljgdepicigaaAid
import Derived.Test.YtbaljgdepicigaaStep
import Derived.Test.YtbaljgdepicigaaGrid
import Derived.Test.YtbaljgdepicigaaLibF
import Derived.Test.YtbaljgdepicigaaMathB
import Derived.Test.YtbaljgdepicigaaMathU
import Derived.Test.YtbaljgdepicigaaMathX
import Derived.Test.YtbaljgdepicigaaMathS
import Derived.Test.YtbaljgdepicigaaMathP
import Derived.Test.YtbaljgdepicigaaMathR
import Derived.Test.YtbaljgdepicigaaMathW
import Derived.Test.YtbaljgdepicigaaMathZ
import Derived.Test.YtbaljgdepicigaaMathY
import Derived.Test.YtbaljgdepicigaaMathE
import Derived.Test.YtbaljgdepicigaaSeed
import Derived.Test.YtbaljgdepicigaaTour
import Derived.Test.YtbaljgdepicigaaTourB
import Derived.Test.YtbaljgdepicigaaPop
import Derived.Test.YtbaljgdepicigaaWin
import Derived.Test.YtbaljgdepicigaaWinB
import Derived.Test.YtbaljgdepicigaaWinC
namespace Go.Proofs.Ytbaljgdepicigaa
open Go.RowKit
set_option linter.unusedVariables false
set_option maxRecDepth 100000

-- words
theorem minL_or {m : Nat} (hm : 0 < m) {l : List (List Int)} (hl : ∀ c ∈ l, c.length = m) : (minL l).length = 0 ∨ (minL l).length = m := by
  by_cases h0 : l = []
  · subst h0; exact .inl rfl
  · exact .inr (hl _ (minL_spec hm hl h0).1)
theorem can_len {s : Int} {xs : List Int} (ht : tourOk s xs) {k set : Nat} (hs : set < 2 ^ xs.length) (hp : pc set = pw2 (k + 1)) {g : Nat} (hv : hal k set g) {a : Nat} {c : List Int}
    (hc : c ∈ canA xs (win xs k) (least xs k) (a : Int) set g ∨ c ∈ canB xs (win xs k) (least xs k) (a : Int) set g) : c.length = pw2 (k + 1) := by
  have hn8 := tourOk_size ht
  have h256 : 2 ^ xs.length ≤ 2 ^ 8 := Nat.pow_le_pow_right (by omega) hn8.2.1
  have hs2 : set < 256 := by omega
  have hh := hal_lt hs2 hp hv
  have hb : ∀ g', hal k set g' → ∀ b : Nat, (win xs k g').testBit b = true → (least xs k (b : Int) g').length = pw2 k := fun g' hg b hb => ((least_ok ht k g' (by have := (hal_lt hs2 hp hg).1; omega) hg.2.2 b).1 hb).1.1
  rcases hc with hc | hc
  · obtain ⟨h4, b, hb8, h5, h6, rfl⟩ := mem_canA.1 hc
    rw [Int.toNat_natCast] at h4
    rw [List.length_append, hb g hv a h4, hb _ hh.2.1 b h5, pw2_eq]; omega
  · obtain ⟨h4, b, hb8, h5, h6, rfl⟩ := mem_canB.1 hc
    rw [Int.toNat_natCast] at h4
    rw [List.length_append, hb g hv b h5, hb _ hh.2.1 a h4, pw2_eq]; omega
theorem cans_len {s : Int} {xs : List Int} (ht : tourOk s xs) {k set : Nat} (hs : set < 2 ^ xs.length) (hp : pc set = pw2 (k + 1)) {a : Nat} (h : Nat) : ∀ c ∈ cans xs (win xs k) (least xs k) (a : Int) set (pw2 k) h, c.length = pw2 (k + 1) := fun c hc => by
  obtain ⟨g, _, hv, h3⟩ := (mem_cans h).1 hc
  exact can_len ht hs hp hv h3
theorem least_half {s : Int} {xs : List Int} (ht : tourOk s xs) {k g : Nat} (hs : g < 2 ^ xs.length) (hp : pc g = pw2 k) {b : Nat} (h : (win xs k g).testBit b = true) : (least xs k (b : Int) g).length = pw2 k := ((least_ok ht k g hs hp b).1 h).1.1
theorem lx_at {us vs : List Int} {i : Nat} {x y : Int} (hp : us.take i = vs.take i) (hx : us[i]? = some x) (hy : vs[i]? = some y) (h : x < y) : lx us vs = true := by
  have e1 : us = us.take i ++ x :: us.drop (i + 1) := by
    have := List.getElem?_eq_some_iff.1 hx
    obtain ⟨h1, rfl⟩ := this
    rw [← List.drop_eq_getElem_cons h1, List.take_append_drop]
  have e2 : vs = vs.take i ++ y :: vs.drop (i + 1) := by
    have := List.getElem?_eq_some_iff.1 hy
    obtain ⟨h1, rfl⟩ := this
    rw [← List.drop_eq_getElem_cons h1, List.take_append_drop]
  rw [e1, e2, ← hp, lx_append_same, lx_cons]
  exact .inl h
theorem lessL_left {us vs : List Int} (h0 : us ≠ []) (h : lx vs us = false) : lessL us vs = us := by unfold lessL; rw [if_neg h0, h]; rfl
theorem lessL_right {us vs : List Int} (h : lx vs us = true) : lessL us vs = vs := by
  unfold lessL
  by_cases h0 : us = []
  · rw [if_pos h0]
  · rw [if_neg h0, if_pos h]
theorem ne_nil_of_len {l : List Int} {n : Nat} (h : l.length = n) (h0 : 0 < n) : l ≠ [] := by rintro rfl; simp at h; omega
theorem bit_one {v : Nat} (hv : v < 256) (a : Nat) : (bits BinOp.and IntKind.i64 ((v : Int) / 2 ^ a) 1 == 1) = v.testBit a := by
  rw [and_bit2 (m := (v : Int)) (by omega) (by omega) a, Bool.eq_iff_iff, beq_iff_eq, bitAt_iff]
-- spec.l22Less
theorem l22Less_any (base : Nat) (A : Option Addr) (n c : Nat) (us : List Int) (A2 : Option Addr) (n2 c2 : Nat) (vs : List Int) (w : World) (h : OwI w base A n c us) (h2 : OwI w base A2 n2 c2 vs) (hl : n = 0 ∨ n = n2) :
    Calls Try.prog 171 #[.slice A n c, .slice A2 n2 c2] w fun e w' => w = w' ∧ ∃ A' n' c', e = .returned (.slice A' n' c') ∧ OwI w base A' n' c' (lessL us vs) := by
  have HO := hide h
  have HO2 := hide h2
  have HI := hide h.ints
  have HI2 := hide h2.ints
  have HL := hide h.len
  have HL2 := hide h2.len
  have hle := h.le
  have hmx := h.max
  clear h h2
  by_cases h0 : n = 0
  · subst h0
    have HV := hide (show lessL us vs = vs by unfold lessL; rw [if_pos (List.length_eq_zero_iff.1 HL.out)])
    clear hl
    go_enter Try.func171, Try.ntmps171
    go_wp2
    go_ret
    exact ⟨rfl, A2, n2, c2, rfl, by rw [HV.out]; exact HO2.out⟩
  · have hnn : n2 = n := by omega
    subst hnn
    have hn0 : ((n2 : Int) == 0) = false := by simp; omega
    have HNE := hide (ne_nil_of_len HL.out (by omega))
    clear hl
    go_enter Try.func171, Try.ntmps171
    go_wp2
    go_loopw [13] (fun i wr => ∃ j : Nat, j ≤ n2 ∧ i = .int .i64 (j : Int) ∧ Hid (us.take j = vs.take j) ∧ w = wr) (fun i _ => n2 - (intOf i).toNat)
    case atStart => exact ⟨0, Nat.zero_le _, rfl, hide (by simp), rfl⟩
    case round =>
      obtain ⟨j, hj, rfl, HT, rfl⟩ := hrel
      by_cases hlt : j < n2
      · have hji : (j : Int) < (n2 : Int) := by omega
        have hj0 : (0 : Int) ≤ (j : Int) := by omega
        obtain ⟨b1, o1, x, rfl, hb1, hx, wx, hc1⟩ := HI.out.get hlt
        obtain ⟨b2, o2, y, rfl, hb2, hy, wy, hc2⟩ := HI2.out.get hlt
        have HX := hide hx
        have HY := hide hy
        clear hx hy
        by_cases he : x = y
        · have hne : (x != y) = false := by simpa using he
          have HN := hide (show us.take (j + 1) = vs.take (j + 1) by rw [take_snoc_of HX.out, take_snoc_of HY.out, HT.out, he])
          clear he
          go_wp2
          go_roundw
          case rel => exact ⟨j + 1, by omega, by go_num, HN, trivial⟩
          case measure => (simp [intOf] <;> omega)
        · have hne : (x != y) = true := by simpa using he
          by_cases hxy : x < y
          · have HV := hide (show lessL us vs = us from lessL_left HNE.out (lx_asym (lx_at HT.out HX.out HY.out hxy)))
            clear he
            go_wp2
            go_ret
            exact ⟨rfl, _, _, _, rfl, by rw [HV.out]; exact HO.out⟩
          · have HV := hide (show lessL us vs = vs from lessL_right (lx_at HT.out.symm HY.out HX.out (by omega)))
            clear he
            go_wp2
            go_ret
            exact ⟨rfl, _, _, _, rfl, by rw [HV.out]; exact HO2.out⟩
      · have hke : j = n2 := by omega
        have HV := hide (show lessL us vs = us by
          have h1 := HT.out
          rw [hke, take_len HL.out, take_len HL2.out] at h1
          rw [h1]
          exact lessL_left (by rw [← h1]; exact HNE.out) (lx_irr _))
        clear hke
        go_wp2
        go_ret
        exact ⟨rfl, _, _, _, rfl, by rw [HV.out]; exact HO.out⟩
-- spec.l22Least
set_option maxHeartbeats 4000000 in
theorem l22Least_any (s : Int) (A : Option Addr) (n c : Nat) (xs : List Int) (ht : tourOk s xs) (hl : xs.length = n) : ∀ (k set : Nat), k ≤ 3 → set < 256 → set < 2 ^ n → pc set = pw2 k → ∀ a : Nat, a < n → ∀ w : World, Ints w A n c xs →
    Calls Try.prog 118 #[.agg #[.int .i64 s, .slice A n c], .int .i64 (a : Int), .int .i64 (set : Int)] w (RetI w (least xs k (a : Int) set)) := by
  have hs8 := tourOk_szW ht hl
  have HX0 := hide (tourOk_row ht)
  have HT := hide ht
  have HL := hide hl
  clear ht hl
  intro k
  induction k with
  | zero =>
    intro set hk3 hlt hln hp a han w h
    have HP : Hid (pc set = 1) := hide hp
    clear hp
    go_enter Try.func118, Try.ntmps118
    go_wp2_with (go_at_call 168; refine (l02Bits_small set hlt _).mono ?_; rw [HP.out]; rintro e w' ⟨rfl, rfl⟩)
    go_ret
    have hli := ints_lit1 (w.alloc (.cells #[.int .i64 s, .slice A n c] 33)) (base := w.heap.size) (a : Int) ⟨by omega, by omega⟩ (by simp)
    rw [World.size_alloc] at hli
    exact RetI.mk rfl hli ((Ext.one _ _).alloc _)
  | succ k ih =>
    intro set hk3 hlt hln hp a han w h
    have HIH := hide ih
    have H_h := hide h
    have hp1 := pw2_pos k
    have hpe := pw2_eq k
    have hp8 := pc_le set hlt
    have HPC := hide hp
    have HSB := hide (pc_sub set hlt)
    have HCL := hide (fun (g : Nat) (hv : hal k set g) (cc : List Int) (hc : cc ∈ canA xs (win xs k) (least xs k) (a : Int) set g ∨ cc ∈ canB xs (win xs k) (least xs k) (a : Int) set g) => can_len HT.out (by rw [HL.out]; exact hln) hp hv hc)
    have HCN := hide (fun (g : Nat) => cans_len HT.out (by rw [HL.out]; exact hln) hp (a := a) g)
    have HHL := hide (fun (g : Nat) (hv : hal k set g) => hal_lt hlt hp hv)
    have HLH := hide (fun (g : Nat) (hg : g < 2 ^ n) (hpg : pc g = pw2 k) (b : Nat) (hb : (win xs k g).testBit b = true) => least_half HT.out (by rw [HL.out]; exact hg) hpg hb)
    have HEQ := hide (show least xs (k + 1) (a : Int) set = minL (cans xs (win xs k) (least xs k) (a : Int) set (pw2 k) set) from rfl)
    have HPW := hide hpe
    generalize hz : pc set = z at *
    have HZ := hide hz; clear hz
    generalize hpk : pw2 k = p at *
    have HPK := hide hpk; clear hpk
    have hz2 : z ≤ 2 * p ∧ 2 * p ≤ z := by omega
    clear ih h hp hpe
    have hz1 : ((z : Int) == 1) = false := by simp; omega
    have hsp : 1 ≤ set := by
      rcases Nat.eq_zero_or_pos set with e | e
      · have h1 := HZ.out; rw [e, show pc 0 = 0 from rfl] at h1; omega
      · exact e
    have hpy : ∀ y : Nat, y = p → (2 * (y : Int) != (z : Int)) = false := fun y hy => by simp; omega
    have HY1 := hide hpy
    have hpn : ∀ y : Nat, ¬ y = p → (2 * (y : Int) != (z : Int)) = true := fun y hy => by rw [bne_iff_ne]; omega
    have HY0 := hide hpn
    clear hpy hpn
    go_enter Try.func118, Try.ntmps118
    go_wp2_with (go_at_call 168; refine (l02Bits_small set hlt _).mono ?_; rw [HZ.out]; rintro e w' ⟨rfl, rfl⟩)
    obtain ⟨W, hW⟩ : ∃ W : World, W = w.alloc (.cells #[.int .i64 s, .slice A n c] 33) := ⟨_, rfl⟩
    have HE := hide (show Ext w W by rw [hW]; exact Ext.one _ _)
    have B0 := hide (show W.cell? ⟨w.heap.size, 0, none⟩ = some (.int .i64 s) by rw [hW]; simp)
    have B1 := hide (show W.cell? ⟨w.heap.size, 1, none⟩ = some (.slice A n c) by rw [hW]; simp)
    have hzW : W.heap.size = w.heap.size + 1 := by rw [hW]; simp
    rw [← hW]
    clear hW hz1
    have hli := ints_lit0 W (base := w.heap.size) HE.out.size
    rw [hzW] at hli
    have HL0 := hide hli
    clear hli
    go_loopw [8, 9] (fun o i wr => ∃ (q nb cb : Nat) (Ab : Option Addr) (best : List Int), 1 ≤ q ∧ q ≤ set ∧ i = .int .i64 (q : Int) ∧ o = .slice Ab nb cb ∧ Hid (best = minL (cans xs (win xs k) (least xs k) (a : Int) set p q)) ∧ Hid (OwI wr w.heap.size Ab nb cb best) ∧ Ext W wr) (fun _ i _ => set - (intOf i).toNat)
    case atStart => exact ⟨1, _, _, _, [], by omega, by omega, rfl, rfl, hide (by simp [cans, minL]), HL0, Ext.one _ _⟩
    case round =>
      obtain ⟨q, nb, cb, Ab, best, hq1, hq2, rfl, rfl, HR, HO, hE⟩ := hrel
      have HER := hide hE
      have e0 := hE.get B0.out
      have e1 := hE.get B1.out
      clear hE
      by_cases hltq : q < set
      · have HA := hide (andnot_i64 q set (by omega) hlt)
        have HAZ := hide (andn_zero (h := q) (m := set) (by omega) hlt)
        have hpq8 := pc_le q (by omega)
        have HNO := hide (show ¬ (1 ≤ q ∧ q &&& set = q ∧ pc q = p) → best = minL (cans xs (win xs k) (least xs k) (a : Int) set p (q + 1)) from fun hn => by rw [cans_no hn]; exact HR.out)
        by_cases hs : q &&& set = q
        · have hq : (bits BinOp.andNot IntKind.i64 (q : Int) (set : Int) != 0) = false := by rw [HA.out, HAZ.out.2 hs]; rfl
          have HS := hide hs
          clear hs
          by_cases hpc : pc q = p
          · have HPQ := hide hpc
            have hneq := HY1.out _ hpc
            clear hpc
            have hsub := HSB.out q (by omega) HS.out
            have HHV := hide (show hal k set q from ⟨hq1, HS.out, by rw [HPQ.out, HPK.out]⟩)
            have HYES := hide (show cans xs (win xs k) (least xs k) (a : Int) set p (q + 1) = cans xs (win xs k) (least xs k) (a : Int) set p q ++ canA xs (win xs k) (least xs k) (a : Int) set q ++ canB xs (win xs k) (least xs k) (a : Int) set q from cans_yes ⟨hq1, HS.out, HPQ.out⟩)
            obtain ⟨r, hr⟩ : ∃ r, set - q = r := ⟨_, rfl⟩
            have HPS := hide (show pc r = p by have := HPQ.out; rw [← hr]; omega)
            have hr8 : r < 256 := by omega
            have hrn : r < 2 ^ n := by omega
            have hqn : q < 2 ^ n := by omega
            have HRS := hide (show r &&& set = r from by have := (HHL.out q HHV.out).2.1.2.1; rwa [hr] at this)
            clear hsub
            have HSUB : Hid ((set : Int) - (q : Int) = (r : Int)) := hide (by omega)
            have HRR := hide hr
            have hw2 := win_lt xs (k := k) (set := r) hr8 (by rw [HPS.out, HPK.out])
            have hw1 := win_lt xs (k := k) (set := q) (by omega) (by rw [HPQ.out, HPK.out])
            have HPL1 := hide (fun x (hx : x ∈ mems (win xs k q)) => win_player (n := n) (by omega) HS.out (by rw [HPQ.out, HPK.out]) hln (by omega) hx)
            have HPL2 := hide (fun x (hx : x ∈ mems (win xs k r)) => win_player (n := n) hr8 HRS.out (by rw [HPS.out, HPK.out]) hln (by omega) hx)
            have HLQ := hide (fun b (hb : (win xs k q).testBit b = true) => HLH.out q hqn (by rw [HPQ.out]) b hb)
            have HLR := hide (fun b (hb : (win xs k r).testBit b = true) => HLH.out r hrn (by rw [HPS.out]) b hb)
            have CW1 := sWinners_any s A n c xs HT.out HL.out k q (by omega) hqn (by rw [HPQ.out, HPK.out])
            have CW2 := sWinners_any s A n c xs HT.out HL.out k r hr8 hrn (by rw [HPS.out, HPK.out])
            have HCA := hide (show canA xs (win xs k) (least xs k) (a : Int) set q = if (win xs k q).testBit a = true then (mems (win xs k r &&& rowN xs (a : Int))).map (fun b => least xs k (a : Int) q ++ least xs k b r) else [] by unfold canA; rw [hr, Int.toNat_natCast])
            have HCB := hide (show canB xs (win xs k) (least xs k) (a : Int) set q = if (win xs k r).testBit a = true then (mems (win xs k q &&& rowN xs (a : Int))).map (fun b => least xs k b q ++ least xs k (a : Int) r) else [] by unfold canB; rw [hr, Int.toNat_natCast])
            generalize hone : win xs k q = one at *
            have HONE := hide hone; clear hone
            generalize htwo : win xs k r = two at *
            have HTWO := hide htwo; clear htwo
            replace CW1 := hide CW1
            replace CW2 := hide CW2
            clear hr
            have HW1 := hide hw1
            have HW2 := hide hw2
            have hsh1 := shr_bound2 (m := (one : Int)) (by omega) a
            have hsh2 := shr_bound2 (m := (two : Int)) (by omega) a
            have HB1 := hide (bit_one hw1 a)
            have HB2 := hide (bit_one hw2 a)
            obtain ⟨b2, o2, y, hA2, hb2, hy, wy, hc2⟩ := (H_h.out.ext (HE.out.trans HER.out)).get han
            subst hA2
            have hyb := HX0.out y (List.mem_of_getElem? hy)
            obtain ⟨rw_, rfl⟩ : ∃ r : Nat, y = (r : Int) := ⟨y.toNat, by omega⟩
            have HRW := hide (show rowN xs (a : Int) = rw_ by simp [rowN, List.getD, hy])
            have hrw8 : rw_ < 256 := by omega
            have HAND1 := hide (bits_and_i64 one rw_ (by omega) (by omega))
            have HAND2 := hide (bits_and_i64 two rw_ (by omega) (by omega))
            have HIL1 := hide (l02List_small (one &&& rw_) (Nat.lt_of_le_of_lt Nat.and_le_left hw1))
            have HIL2 := hide (l02List_small (two &&& rw_) (Nat.lt_of_le_of_lt Nat.and_le_left hw2))
            rw [HRW.out] at HCA HCB
            replace HCA := hide HCA.out
            replace HCB := hide HCB.out
            have hai : (0 : Int) ≤ (a : Int) := by omega
            have hani : (a : Int) < (n : Int) := by omega
            have hm : 0 < p + p ∧ p + p ≤ 8 := by omega
            have HMM := hide (show pw2 (k + 1) = p + p by have := HPW.out; omega)
            have HP8 := hide hp8
            clear hy hw1 hw2 hyb
            go_wp2_with ((go_at_call 168; refine (l02Bits_small q (by omega) _).mono ?_; rw [HPQ.out]; rintro e w' ⟨rfl, rfl⟩))
            go_wp2_with fail
            refine (CW1.out _ (H_h.out.ext (HE.out.trans HER.out))).mono ?_
            rintro e w5 ⟨rfl, hE5⟩
            have g0 := hE5.get e0
            have g1 := hE5.get e1
            have g2 := hE5.get hc2
            clear e0 e1 hneq hq hc2
            go_wp2_with fail
            rw [HSUB.out]
            refine (CW2.out _ (H_h.out.ext ((HE.out.trans HER.out).trans hE5))).mono ?_
            rintro e w6 ⟨rfl, hE6⟩
            have k0 := hE6.get g0
            have k1 := hE6.get g1
            have k2 := hE6.get g2
            have HE6 := hide ((HER.out.trans hE5).trans hE6)
            have HO6 := hide (HO.out.ext (hE5.trans hE6))
            have K0 := hide k0
            have K1 := hide k1
            have K2 := hide k2
            clear g0 g1 g2 hE5 hE6 HO
            by_cases hbt1 : one.testBit a = true
            · have hbit : (bits BinOp.and IntKind.i64 ((one : Int) / 2 ^ a) 1 == 1) = true := HB1.out.trans hbt1
              have HBT := hide hbt1
              have HBST := hide HR.out
              clear hbt1
              have HALL := hide (show ∀ cc ∈ cans xs (win xs k) (least xs k) (a : Int) set p q ++ canA xs (win xs k) (least xs k) (a : Int) set q, cc.length = pw2 (k + 1) from fun cc hc => by
                rcases List.mem_append.1 hc with hc | hc
                · exact HCN.out q cc hc
                · exact HCL.out q HHV.out cc (.inl hc))
              have HCE := hide (show canA xs (win xs k) (least xs k) (a : Int) set q = (mems (two &&& rw_)).map (fun b => least xs k (a : Int) q ++ least xs k b r) by rw [HCA.out, if_pos HBT.out])
              have HLN := hide (show ∀ cc ∈ cans xs (win xs k) (least xs k) (a : Int) set p q ++ (mems (two &&& rw_)).map (fun b => least xs k (a : Int) q ++ least xs k b r), cc.length = p + p from fun cc hc => by
                rw [← HCE.out] at hc
                rw [← HMM.out]
                exact HALL.out cc hc)
              go_wp2_with fail
              rw [HAND2.out]
              refine (HIL2.out _).mono ?_
              rintro e w7 ⟨B, d, rfl, hoB, hE7⟩
              obtain ⟨M, hM⟩ : ∃ M : List Int, mems (two &&& rw_) = M := ⟨_, rfl⟩
              rw [hM] at hoB HCE HLN ⊢
              replace HCE := hide HCE.out
              replace HLN := hide HLN.out
              have HMS := hide hM
              clear hM
              have HLI := hide hoB.ints
              have hLm := hoB.max
              have hLl := hoB.le
              have HE7 := hide (HE6.out.trans hE7)
              have HO7 := hide (HO6.out.ext hE7)
              have F0 := hide (hE7.get K0.out)
              have F1 := hide (hE7.get K1.out)
              have F2 := hide (hE7.get K2.out)
              have hL8 : M.length ≤ 8 := by have := memTo_len (two &&& rw_) 8; rw [show memTo (two &&& rw_) 8 = M from HMS.out] at this; exact this
              clear hoB hE7 k0 k1 k2
              go_wp2
              go_loopw [8, 63] (fun o i wr => ∃ (j nb cb : Nat) (Ab : Option Addr) (best : List Int), j ≤ M.length ∧ i = .int .i64 (j : Int) ∧ o = .slice Ab nb cb ∧ Hid (best = minL (cans xs (win xs k) (least xs k) (a : Int) set p q ++ (M.map (fun b => least xs k (a : Int) q ++ least xs k b r)).take j)) ∧ Hid (OwI wr w.heap.size Ab nb cb best) ∧ Ext w7 wr) (fun _ i _ => M.length - (intOf i).toNat)
              case atStart => exact ⟨0, _, _, _, best, Nat.zero_le _, rfl, rfl, hide (by rw [List.take_zero, List.append_nil]; exact HBST.out), HO7, Ext.refl _⟩
              case round =>
                obtain ⟨j, nb, cb, Ab, best, hj, rfl, rfl, HRJ, HOJ, hE⟩ := hrel
                have HEJ := hide (HE7.out.trans hE)
                have f0 := hE.get F0.out
                have f1 := hE.get F1.out
                have f2 := hE.get F2.out
                have HEI := hide hE
                clear hE
                by_cases hltj : j < M.length
                · obtain ⟨b1, o1, x, hA1, hb1, hx, wx, hc1⟩ := (HLI.out.ext HEI.out).get hltj
                  have hmem := List.mem_of_getElem? hx
                  rw [← HMS.out] at hmem
                  obtain ⟨b, hb8, hbt, rfl⟩ := mem_mems.1 hmem
                  rw [Nat.testBit_and, Bool.and_eq_true] at hbt
                  obtain ⟨b', hbb, hbn, _⟩ := HPL2.out (b : Int) (mem_mems.2 ⟨b, hb8, hbt.1, rfl⟩)
                  obtain rfl : b = b' := by omega
                  subst hA1
                  have HTK := hide (show (M.map (fun b => least xs k (a : Int) q ++ least xs k b r)).take (j + 1) = (M.map (fun b => least xs k (a : Int) q ++ least xs k b r)).take j ++ [least xs k (a : Int) q ++ least xs k (b : Int) r] from take_snoc_of (by rw [List.getElem?_map, hx]; rfl))
                  obtain ⟨l1, hl1⟩ : ∃ l1, least xs k (a : Int) q = l1 := ⟨_, rfl⟩
                  obtain ⟨l2, hl2⟩ : ∃ l2, least xs k (b : Int) r = l2 := ⟨_, rfl⟩
                  have hn1 : l1.length = p := by rw [← hl1]; exact HLQ.out a HBT.out
                  have hn2 : l2.length = p := by rw [← hl2]; exact HLR.out b hbt.1
                  have C1 := HIH.out q (by omega) (by omega) hqn HPQ.out a han
                  have C2 := HIH.out r (by omega) hr8 hrn HPS.out b hbn
                  rw [hl1] at C1
                  rw [hl2] at C2
                  replace C1 := hide C1
                  replace C2 := hide C2
                  have HNX := hide (show minL (cans xs (win xs k) (least xs k) (a : Int) set p q ++ (M.map (fun b => least xs k (a : Int) q ++ least xs k b r)).take (j + 1)) = lessL best (l1 ++ l2) by rw [HTK.out, ← List.append_assoc, minL_snoc, HRJ.out, ← hl1, ← hl2])
                  have hnb : nb = 0 ∨ nb = p + p := by
                    have h1 := minL_or (m := p + p) (by omega) (l := cans xs (win xs k) (least xs k) (a : Int) set p q ++ (M.map (fun b => least xs k (a : Int) q ++ least xs k b r)).take j) (fun cc hc => HLN.out cc (by
                      rcases List.mem_append.1 hc with hc | hc
                      · exact List.mem_append.2 (.inl hc)
                      · exact List.mem_append.2 (.inr (List.mem_of_mem_take hc))))
                    rw [← HRJ.out, HOJ.out.len] at h1
                    exact h1
                  have HN1 := hide hn1
                  have HN2 := hide hn2
                  have KS := hide (show ∀ w', Ext wr w' → (Ext wr w' ∧ w'.cell? ⟨w.heap.size, 0, none⟩ = some (.int .i64 s) ∧ w'.cell? ⟨w.heap.size, 1, none⟩ = some (.slice (some ⟨b2, o2, none⟩) n c)) from fun w' hh => ⟨hh, hh.get f0, hh.get f1⟩)
                  have hzr := HEJ.out.size
                  have hzw := HE.out.size
                  have hji : (j : Int) < (M.length : Int) := by omega
                  have hpp : p + p ≤ 4294967296 := by omega
                  clear hx hmem hbt hbb hn1 hn2 hl1 hl2
                  go_wp2
                  go_region_held3 (fun w' => Ext wr w' ∧ w'.cell? ⟨w.heap.size, 0, none⟩ = some (.int .i64 s) ∧ w'.cell? ⟨w.heap.size, 1, none⟩ = some (.slice (some ⟨b2, o2, none⟩) n c))
                    (first | exact KS.out _ (Ext.refl _) | exact KS.out _ (Ext.refl _).drew | exact KS.out _ ((Ext.refl _).drew.trans hE8) | exact KS.out _ (((Ext.refl _).drew.trans hE8).trans hE9) | exact KS.out _ HX10.out)
                    (first
                      | (go_at_call 118; (with_reducible refine (C1.out _ (H_h.out.ext ((HE.out.trans HEJ.out).drew))).mono ?_); rintro e w8 ⟨D1, d1, rfl, ho8, hE8⟩; rw [HN1.out] at ho8 ⊢)
                      | (go_at_call 118; (with_reducible refine (C2.out _ (H_h.out.ext (((HE.out.trans HEJ.out).drew).trans hE8))).mono ?_); rintro e w9 ⟨D2, d2, rfl, ho9, hE9⟩; rw [HN2.out] at ho9 ⊢)
                      | (refine step_push_ints (base := wr.heap.size) rfl (.tmp 71) (.tmp 75) rfl rfl (ho8.ext hE9) D2 p d2 _ rfl ho9.ints hpp (Nat.le_trans hE8.size hE9.size) ?_; intro A10 c10 w10 hb10 hg10 hat10; have HX10 := hide ((((Ext.refl wr).drew.trans hE8).trans hE9).grown hg10 (fun q hq => (ho8.block q hq).1)))
                      | (go_at_call 171; (with_reducible refine (l22Less_any w.heap.size _ _ _ best _ _ _ (l1 ++ l2) _ (HOJ.out.ext HX10.out) (hb10.mono (by omega)) hnb).mono ?_); rintro e w11 ⟨rfl, A11, n11, c11, rfl, ho11⟩))
                  have HO11 := hide ho11
                  clear ho8 ho9 hE8 hE9 hb10 hg10 hat10 ho11
                  go_wp2
                  go_roundw
                  case rel => exact ⟨j + 1, n11, c11, A11, lessL best (l1 ++ l2), by omega, by go_num, rfl, hide HNX.out.symm, HO11, HEI.out.trans HX10.out⟩
                  case measure => (simp [intOf] <;> omega)
                · have hje : j = M.length := by omega
                  have HBST2 := hide (show best = minL (cans xs (win xs k) (least xs k) (a : Int) set p q ++ canA xs (win xs k) (least xs k) (a : Int) set q) by rw [HRJ.out, HCE.out, hje, List.take_of_length_le (by rw [List.length_map]; omega)])
                  clear hje
                  have HBST := hide HBST2.out
                  have k0 := f0
                  have k1 := f1
                  have k2 := f2
                  have K0 := hide k0
                  have K1 := hide k1
                  have K2 := hide k2
                  clear f0 f1 f2 HBST2 HCE HBT hbit
                  obtain ⟨wa, rfl⟩ : ∃ wa : World, wa = wr := ⟨_, rfl⟩
                  by_cases hbt2 : two.testBit a = true
                  · have hbit : (bits BinOp.and IntKind.i64 ((two : Int) / 2 ^ a) 1 == 1) = true := HB2.out.trans hbt2
                    have HBT := hide hbt2
                    clear hbt2
                    have HALL := hide (show ∀ cc ∈ (cans xs (win xs k) (least xs k) (a : Int) set p q ++ canA xs (win xs k) (least xs k) (a : Int) set q) ++ canB xs (win xs k) (least xs k) (a : Int) set q, cc.length = pw2 (k + 1) from fun cc hc => by
                      rcases List.mem_append.1 hc with hc | hc
                      · rcases List.mem_append.1 hc with hc | hc
                        · exact HCN.out q cc hc
                        · exact HCL.out q HHV.out cc (.inl hc)
                      · exact HCL.out q HHV.out cc (.inr hc))
                    have HCE := hide (show canB xs (win xs k) (least xs k) (a : Int) set q = (mems (one &&& rw_)).map (fun b => least xs k b q ++ least xs k (a : Int) r) by rw [HCB.out, if_pos HBT.out])
                    have HLN := hide (show ∀ cc ∈ (cans xs (win xs k) (least xs k) (a : Int) set p q ++ canA xs (win xs k) (least xs k) (a : Int) set q) ++ (mems (one &&& rw_)).map (fun b => least xs k b q ++ least xs k (a : Int) r), cc.length = p + p from fun cc hc => by
                      rw [← HCE.out] at hc
                      rw [← HMM.out]
                      exact HALL.out cc hc)
                    go_wp2_with fail
                    rw [HAND1.out]
                    refine (HIL1.out _).mono ?_
                    rintro e w7 ⟨B, d, rfl, hoB, hE7⟩
                    obtain ⟨M, hM⟩ : ∃ M : List Int, mems (one &&& rw_) = M := ⟨_, rfl⟩
                    rw [hM] at hoB HCE HLN ⊢
                    replace HCE := hide HCE.out
                    replace HLN := hide HLN.out
                    have HMS := hide hM
                    clear hM
                    have HLI := hide hoB.ints
                    have hLm := hoB.max
                    have hLl := hoB.le
                    have HE7 := hide (HEJ.out.trans hE7)
                    have HO7 := hide (HOJ.out.ext hE7)
                    have F0 := hide (hE7.get K0.out)
                    have F1 := hide (hE7.get K1.out)
                    have F2 := hide (hE7.get K2.out)
                    have hL8 : M.length ≤ 8 := by have := memTo_len (one &&& rw_) 8; rw [show memTo (one &&& rw_) 8 = M from HMS.out] at this; exact this
                    clear hoB hE7 k0 k1 k2
                    go_wp2
                    go_loopw [8, 93] (fun o i wr => ∃ (j nb cb : Nat) (Ab : Option Addr) (best : List Int), j ≤ M.length ∧ i = .int .i64 (j : Int) ∧ o = .slice Ab nb cb ∧ Hid (best = minL ((cans xs (win xs k) (least xs k) (a : Int) set p q ++ canA xs (win xs k) (least xs k) (a : Int) set q) ++ (M.map (fun b => least xs k b q ++ least xs k (a : Int) r)).take j)) ∧ Hid (OwI wr w.heap.size Ab nb cb best) ∧ Ext w7 wr) (fun _ i _ => M.length - (intOf i).toNat)
                    case atStart => exact ⟨0, _, _, _, best, Nat.zero_le _, rfl, rfl, hide (by rw [List.take_zero, List.append_nil]; exact HBST.out), HO7, Ext.refl _⟩
                    case round =>
                      obtain ⟨j, nb, cb, Ab, best, hj, rfl, rfl, HRJ, HOJ, hE⟩ := hrel
                      have HEJ := hide (HE7.out.trans hE)
                      have f0 := hE.get F0.out
                      have f1 := hE.get F1.out
                      have f2 := hE.get F2.out
                      have HEI := hide hE
                      clear hE
                      by_cases hltj : j < M.length
                      · obtain ⟨b1, o1, x, hA1, hb1, hx, wx, hc1⟩ := (HLI.out.ext HEI.out).get hltj
                        have hmem := List.mem_of_getElem? hx
                        rw [← HMS.out] at hmem
                        obtain ⟨b, hb8, hbt, rfl⟩ := mem_mems.1 hmem
                        rw [Nat.testBit_and, Bool.and_eq_true] at hbt
                        obtain ⟨b', hbb, hbn, _⟩ := HPL1.out (b : Int) (mem_mems.2 ⟨b, hb8, hbt.1, rfl⟩)
                        obtain rfl : b = b' := by omega
                        subst hA1
                        have HTK := hide (show (M.map (fun b => least xs k b q ++ least xs k (a : Int) r)).take (j + 1) = (M.map (fun b => least xs k b q ++ least xs k (a : Int) r)).take j ++ [least xs k (b : Int) q ++ least xs k (a : Int) r] from take_snoc_of (by rw [List.getElem?_map, hx]; rfl))
                        obtain ⟨l1, hl1⟩ : ∃ l1, least xs k (b : Int) q = l1 := ⟨_, rfl⟩
                        obtain ⟨l2, hl2⟩ : ∃ l2, least xs k (a : Int) r = l2 := ⟨_, rfl⟩
                        have hn1 : l1.length = p := by rw [← hl1]; exact HLQ.out b hbt.1
                        have hn2 : l2.length = p := by rw [← hl2]; exact HLR.out a HBT.out
                        have C1 := HIH.out q (by omega) (by omega) hqn HPQ.out b hbn
                        have C2 := HIH.out r (by omega) hr8 hrn HPS.out a han
                        rw [hl1] at C1
                        rw [hl2] at C2
                        replace C1 := hide C1
                        replace C2 := hide C2
                        have HNX := hide (show minL ((cans xs (win xs k) (least xs k) (a : Int) set p q ++ canA xs (win xs k) (least xs k) (a : Int) set q) ++ (M.map (fun b => least xs k b q ++ least xs k (a : Int) r)).take (j + 1)) = lessL best (l1 ++ l2) by rw [HTK.out, ← List.append_assoc, minL_snoc, HRJ.out, ← hl1, ← hl2])
                        have hnb : nb = 0 ∨ nb = p + p := by
                          have h1 := minL_or (m := p + p) (by omega) (l := (cans xs (win xs k) (least xs k) (a : Int) set p q ++ canA xs (win xs k) (least xs k) (a : Int) set q) ++ (M.map (fun b => least xs k b q ++ least xs k (a : Int) r)).take j) (fun cc hc => HLN.out cc (by
                            rcases List.mem_append.1 hc with hc | hc
                            · exact List.mem_append.2 (.inl hc)
                            · exact List.mem_append.2 (.inr (List.mem_of_mem_take hc))))
                          rw [← HRJ.out, HOJ.out.len] at h1
                          exact h1
                        have HN1 := hide hn1
                        have HN2 := hide hn2
                        have KS := hide (show ∀ w', Ext wr w' → (Ext wr w' ∧ w'.cell? ⟨w.heap.size, 0, none⟩ = some (.int .i64 s) ∧ w'.cell? ⟨w.heap.size, 1, none⟩ = some (.slice (some ⟨b2, o2, none⟩) n c)) from fun w' hh => ⟨hh, hh.get f0, hh.get f1⟩)
                        have hzr := HEJ.out.size
                        have hzw := HE.out.size
                        have hji : (j : Int) < (M.length : Int) := by omega
                        have hpp : p + p ≤ 4294967296 := by omega
                        clear hx hmem hbt hbb hn1 hn2 hl1 hl2
                        go_wp2
                        go_region_held3 (fun w' => Ext wr w' ∧ w'.cell? ⟨w.heap.size, 0, none⟩ = some (.int .i64 s) ∧ w'.cell? ⟨w.heap.size, 1, none⟩ = some (.slice (some ⟨b2, o2, none⟩) n c))
                          (first | exact KS.out _ (Ext.refl _) | exact KS.out _ (Ext.refl _).drew | exact KS.out _ ((Ext.refl _).drew.trans hE8) | exact KS.out _ (((Ext.refl _).drew.trans hE8).trans hE9) | exact KS.out _ HX10.out)
                          (first
                            | (go_at_call 118; (with_reducible refine (C1.out _ (H_h.out.ext ((HE.out.trans HEJ.out).drew))).mono ?_); rintro e w8 ⟨D1, d1, rfl, ho8, hE8⟩; rw [HN1.out] at ho8 ⊢)
                            | (go_at_call 118; (with_reducible refine (C2.out _ (H_h.out.ext (((HE.out.trans HEJ.out).drew).trans hE8))).mono ?_); rintro e w9 ⟨D2, d2, rfl, ho9, hE9⟩; rw [HN2.out] at ho9 ⊢)
                            | (refine step_push_ints (base := wr.heap.size) rfl (.tmp 101) (.tmp 105) rfl rfl (ho8.ext hE9) D2 p d2 _ rfl ho9.ints hpp (Nat.le_trans hE8.size hE9.size) ?_; intro A10 c10 w10 hb10 hg10 hat10; have HX10 := hide ((((Ext.refl wr).drew.trans hE8).trans hE9).grown hg10 (fun q hq => (ho8.block q hq).1)))
                            | (go_at_call 171; (with_reducible refine (l22Less_any w.heap.size _ _ _ best _ _ _ (l1 ++ l2) _ (HOJ.out.ext HX10.out) (hb10.mono (by omega)) hnb).mono ?_); rintro e w11 ⟨rfl, A11, n11, c11, rfl, ho11⟩))
                        have HO11 := hide ho11
                        clear ho8 ho9 hE8 hE9 hb10 hg10 hat10 ho11
                        go_wp2
                        go_roundw
                        case rel => exact ⟨j + 1, n11, c11, A11, lessL best (l1 ++ l2), by omega, by go_num, rfl, hide HNX.out.symm, HO11, HEI.out.trans HX10.out⟩
                        case measure => (simp [intOf] <;> omega)
                      · have hje : j = M.length := by omega
                        have HBST2 := hide (show best = minL ((cans xs (win xs k) (least xs k) (a : Int) set p q ++ canA xs (win xs k) (least xs k) (a : Int) set q) ++ canB xs (win xs k) (least xs k) (a : Int) set q) by rw [HRJ.out, HCE.out, hje, List.take_of_length_le (by rw [List.length_map]; omega)])
                        clear hje
                        have HN := hide (show best = minL (cans xs (win xs k) (least xs k) (a : Int) set p (q + 1)) by rw [HYES.out]; exact HBST2.out)
                        go_wp2
                        go_roundw
                        case rel => exact ⟨q + 1, nb, cb, Ab, best, by omega, by omega, by go_num, rfl, HN, HOJ, HEJ.out⟩
                        case measure => (simp [intOf] <;> omega)
                  · have hbit : (bits BinOp.and IntKind.i64 ((two : Int) / 2 ^ a) 1 == 1) = false := HB2.out.trans (by simpa using hbt2)
                    have HBT := hide hbt2
                    clear hbt2
                    have HBST2 := hide (show best = minL ((cans xs (win xs k) (least xs k) (a : Int) set p q ++ canA xs (win xs k) (least xs k) (a : Int) set q) ++ canB xs (win xs k) (least xs k) (a : Int) set q) by rw [HCB.out, if_neg HBT.out, List.append_nil]; exact HBST.out)
                    have HN := hide (show best = minL (cans xs (win xs k) (least xs k) (a : Int) set p (q + 1)) by rw [HYES.out]; exact HBST2.out)
                    go_wp2
                    go_roundw
                    case rel => exact ⟨q + 1, nb, cb, Ab, best, by omega, by omega, by go_num, rfl, HN, HOJ, HEJ.out⟩
                    case measure => (simp [intOf] <;> omega)
            · have hbit : (bits BinOp.and IntKind.i64 ((one : Int) / 2 ^ a) 1 == 1) = false := HB1.out.trans (by simpa using hbt1)
              have HBST := hide (show best = minL (cans xs (win xs k) (least xs k) (a : Int) set p q ++ canA xs (win xs k) (least xs k) (a : Int) set q) by rw [HCA.out, if_neg hbt1, List.append_nil]; exact HR.out)
              clear hbt1
              by_cases hbt2 : two.testBit a = true
              · have hbit : (bits BinOp.and IntKind.i64 ((two : Int) / 2 ^ a) 1 == 1) = true := HB2.out.trans hbt2
                have HBT := hide hbt2
                clear hbt2
                have HALL := hide (show ∀ cc ∈ (cans xs (win xs k) (least xs k) (a : Int) set p q ++ canA xs (win xs k) (least xs k) (a : Int) set q) ++ canB xs (win xs k) (least xs k) (a : Int) set q, cc.length = pw2 (k + 1) from fun cc hc => by
                  rcases List.mem_append.1 hc with hc | hc
                  · rcases List.mem_append.1 hc with hc | hc
                    · exact HCN.out q cc hc
                    · exact HCL.out q HHV.out cc (.inl hc)
                  · exact HCL.out q HHV.out cc (.inr hc))
                have HCE := hide (show canB xs (win xs k) (least xs k) (a : Int) set q = (mems (one &&& rw_)).map (fun b => least xs k b q ++ least xs k (a : Int) r) by rw [HCB.out, if_pos HBT.out])
                have HLN := hide (show ∀ cc ∈ (cans xs (win xs k) (least xs k) (a : Int) set p q ++ canA xs (win xs k) (least xs k) (a : Int) set q) ++ (mems (one &&& rw_)).map (fun b => least xs k b q ++ least xs k (a : Int) r), cc.length = p + p from fun cc hc => by
                  rw [← HCE.out] at hc
                  rw [← HMM.out]
                  exact HALL.out cc hc)
                go_wp2_with fail
                rw [HAND1.out]
                refine (HIL1.out _).mono ?_
                rintro e w7 ⟨B, d, rfl, hoB, hE7⟩
                obtain ⟨M, hM⟩ : ∃ M : List Int, mems (one &&& rw_) = M := ⟨_, rfl⟩
                rw [hM] at hoB HCE HLN ⊢
                replace HCE := hide HCE.out
                replace HLN := hide HLN.out
                have HMS := hide hM
                clear hM
                have HLI := hide hoB.ints
                have hLm := hoB.max
                have hLl := hoB.le
                have HE7 := hide (HE6.out.trans hE7)
                have HO7 := hide (HO6.out.ext hE7)
                have F0 := hide (hE7.get K0.out)
                have F1 := hide (hE7.get K1.out)
                have F2 := hide (hE7.get K2.out)
                have hL8 : M.length ≤ 8 := by have := memTo_len (one &&& rw_) 8; rw [show memTo (one &&& rw_) 8 = M from HMS.out] at this; exact this
                clear hoB hE7 k0 k1 k2
                go_wp2
                go_loopw [8, 93] (fun o i wr => ∃ (j nb cb : Nat) (Ab : Option Addr) (best : List Int), j ≤ M.length ∧ i = .int .i64 (j : Int) ∧ o = .slice Ab nb cb ∧ Hid (best = minL ((cans xs (win xs k) (least xs k) (a : Int) set p q ++ canA xs (win xs k) (least xs k) (a : Int) set q) ++ (M.map (fun b => least xs k b q ++ least xs k (a : Int) r)).take j)) ∧ Hid (OwI wr w.heap.size Ab nb cb best) ∧ Ext w7 wr) (fun _ i _ => M.length - (intOf i).toNat)
                case atStart => exact ⟨0, _, _, _, best, Nat.zero_le _, rfl, rfl, hide (by rw [List.take_zero, List.append_nil]; exact HBST.out), HO7, Ext.refl _⟩
                case round =>
                  obtain ⟨j, nb, cb, Ab, best, hj, rfl, rfl, HRJ, HOJ, hE⟩ := hrel
                  have HEJ := hide (HE7.out.trans hE)
                  have f0 := hE.get F0.out
                  have f1 := hE.get F1.out
                  have f2 := hE.get F2.out
                  have HEI := hide hE
                  clear hE
                  by_cases hltj : j < M.length
                  · obtain ⟨b1, o1, x, hA1, hb1, hx, wx, hc1⟩ := (HLI.out.ext HEI.out).get hltj
                    have hmem := List.mem_of_getElem? hx
                    rw [← HMS.out] at hmem
                    obtain ⟨b, hb8, hbt, rfl⟩ := mem_mems.1 hmem
                    rw [Nat.testBit_and, Bool.and_eq_true] at hbt
                    obtain ⟨b', hbb, hbn, _⟩ := HPL1.out (b : Int) (mem_mems.2 ⟨b, hb8, hbt.1, rfl⟩)
                    obtain rfl : b = b' := by omega
                    subst hA1
                    have HTK := hide (show (M.map (fun b => least xs k b q ++ least xs k (a : Int) r)).take (j + 1) = (M.map (fun b => least xs k b q ++ least xs k (a : Int) r)).take j ++ [least xs k (b : Int) q ++ least xs k (a : Int) r] from take_snoc_of (by rw [List.getElem?_map, hx]; rfl))
                    obtain ⟨l1, hl1⟩ : ∃ l1, least xs k (b : Int) q = l1 := ⟨_, rfl⟩
                    obtain ⟨l2, hl2⟩ : ∃ l2, least xs k (a : Int) r = l2 := ⟨_, rfl⟩
                    have hn1 : l1.length = p := by rw [← hl1]; exact HLQ.out b hbt.1
                    have hn2 : l2.length = p := by rw [← hl2]; exact HLR.out a HBT.out
                    have C1 := HIH.out q (by omega) (by omega) hqn HPQ.out b hbn
                    have C2 := HIH.out r (by omega) hr8 hrn HPS.out a han
                    rw [hl1] at C1
                    rw [hl2] at C2
                    replace C1 := hide C1
                    replace C2 := hide C2
                    have HNX := hide (show minL ((cans xs (win xs k) (least xs k) (a : Int) set p q ++ canA xs (win xs k) (least xs k) (a : Int) set q) ++ (M.map (fun b => least xs k b q ++ least xs k (a : Int) r)).take (j + 1)) = lessL best (l1 ++ l2) by rw [HTK.out, ← List.append_assoc, minL_snoc, HRJ.out, ← hl1, ← hl2])
                    have hnb : nb = 0 ∨ nb = p + p := by
                      have h1 := minL_or (m := p + p) (by omega) (l := (cans xs (win xs k) (least xs k) (a : Int) set p q ++ canA xs (win xs k) (least xs k) (a : Int) set q) ++ (M.map (fun b => least xs k b q ++ least xs k (a : Int) r)).take j) (fun cc hc => HLN.out cc (by
                        rcases List.mem_append.1 hc with hc | hc
                        · exact List.mem_append.2 (.inl hc)
                        · exact List.mem_append.2 (.inr (List.mem_of_mem_take hc))))
                      rw [← HRJ.out, HOJ.out.len] at h1
                      exact h1
                    have HN1 := hide hn1
                    have HN2 := hide hn2
                    have KS := hide (show ∀ w', Ext wr w' → (Ext wr w' ∧ w'.cell? ⟨w.heap.size, 0, none⟩ = some (.int .i64 s) ∧ w'.cell? ⟨w.heap.size, 1, none⟩ = some (.slice (some ⟨b2, o2, none⟩) n c)) from fun w' hh => ⟨hh, hh.get f0, hh.get f1⟩)
                    have hzr := HEJ.out.size
                    have hzw := HE.out.size
                    have hji : (j : Int) < (M.length : Int) := by omega
                    have hpp : p + p ≤ 4294967296 := by omega
                    clear hx hmem hbt hbb hn1 hn2 hl1 hl2
                    go_wp2
                    go_region_held3 (fun w' => Ext wr w' ∧ w'.cell? ⟨w.heap.size, 0, none⟩ = some (.int .i64 s) ∧ w'.cell? ⟨w.heap.size, 1, none⟩ = some (.slice (some ⟨b2, o2, none⟩) n c))
                      (first | exact KS.out _ (Ext.refl _) | exact KS.out _ (Ext.refl _).drew | exact KS.out _ ((Ext.refl _).drew.trans hE8) | exact KS.out _ (((Ext.refl _).drew.trans hE8).trans hE9) | exact KS.out _ HX10.out)
                      (first
                        | (go_at_call 118; (with_reducible refine (C1.out _ (H_h.out.ext ((HE.out.trans HEJ.out).drew))).mono ?_); rintro e w8 ⟨D1, d1, rfl, ho8, hE8⟩; rw [HN1.out] at ho8 ⊢)
                        | (go_at_call 118; (with_reducible refine (C2.out _ (H_h.out.ext (((HE.out.trans HEJ.out).drew).trans hE8))).mono ?_); rintro e w9 ⟨D2, d2, rfl, ho9, hE9⟩; rw [HN2.out] at ho9 ⊢)
                        | (refine step_push_ints (base := wr.heap.size) rfl (.tmp 101) (.tmp 105) rfl rfl (ho8.ext hE9) D2 p d2 _ rfl ho9.ints hpp (Nat.le_trans hE8.size hE9.size) ?_; intro A10 c10 w10 hb10 hg10 hat10; have HX10 := hide ((((Ext.refl wr).drew.trans hE8).trans hE9).grown hg10 (fun q hq => (ho8.block q hq).1)))
                        | (go_at_call 171; (with_reducible refine (l22Less_any w.heap.size _ _ _ best _ _ _ (l1 ++ l2) _ (HOJ.out.ext HX10.out) (hb10.mono (by omega)) hnb).mono ?_); rintro e w11 ⟨rfl, A11, n11, c11, rfl, ho11⟩))
                    have HO11 := hide ho11
                    clear ho8 ho9 hE8 hE9 hb10 hg10 hat10 ho11
                    go_wp2
                    go_roundw
                    case rel => exact ⟨j + 1, n11, c11, A11, lessL best (l1 ++ l2), by omega, by go_num, rfl, hide HNX.out.symm, HO11, HEI.out.trans HX10.out⟩
                    case measure => (simp [intOf] <;> omega)
                  · have hje : j = M.length := by omega
                    have HBST2 := hide (show best = minL ((cans xs (win xs k) (least xs k) (a : Int) set p q ++ canA xs (win xs k) (least xs k) (a : Int) set q) ++ canB xs (win xs k) (least xs k) (a : Int) set q) by rw [HRJ.out, HCE.out, hje, List.take_of_length_le (by rw [List.length_map]; omega)])
                    clear hje
                    have HN := hide (show best = minL (cans xs (win xs k) (least xs k) (a : Int) set p (q + 1)) by rw [HYES.out]; exact HBST2.out)
                    go_wp2
                    go_roundw
                    case rel => exact ⟨q + 1, nb, cb, Ab, best, by omega, by omega, by go_num, rfl, HN, HOJ, HEJ.out⟩
                    case measure => (simp [intOf] <;> omega)
              · have hbit : (bits BinOp.and IntKind.i64 ((two : Int) / 2 ^ a) 1 == 1) = false := HB2.out.trans (by simpa using hbt2)
                have HBT := hide hbt2
                clear hbt2
                have HBST2 := hide (show best = minL ((cans xs (win xs k) (least xs k) (a : Int) set p q ++ canA xs (win xs k) (least xs k) (a : Int) set q) ++ canB xs (win xs k) (least xs k) (a : Int) set q) by rw [HCB.out, if_neg HBT.out, List.append_nil]; exact HBST.out)
                have HN := hide (show best = minL (cans xs (win xs k) (least xs k) (a : Int) set p (q + 1)) by rw [HYES.out]; exact HBST2.out)
                go_wp2
                go_roundw
                case rel => exact ⟨q + 1, nb, cb, Ab, best, by omega, by omega, by go_num, rfl, HN, HO6, HE6.out⟩
                case measure => (simp [intOf] <;> omega)
          · have hneq := HY0.out _ hpc
            have HN := hide (HNO.out (fun hh => hpc hh.2.2))
            clear hpc
            go_wp2_with ((go_at_call 168; refine (l02Bits_small q (by omega) _).mono ?_; rintro e w' ⟨rfl, rfl⟩))
            go_roundw
            case rel => exact ⟨q + 1, _, _, _, best, by omega, by omega, by go_num, rfl, HN, HO, HER.out⟩
            case measure => (simp [intOf] <;> omega)
        · have hq : (bits BinOp.andNot IntKind.i64 (q : Int) (set : Int) != 0) = true := by rw [HA.out, bne_iff_ne]; intro e; exact hs (HAZ.out.1 (Int.ofNat_eq_zero.1 e))
          have HN := hide (HNO.out (fun hh => hs hh.2.1))
          clear hs
          go_wp2
          go_roundw
          case rel => exact ⟨q + 1, _, _, _, best, by omega, by omega, by go_num, rfl, HN, HO, HER.out⟩
          case measure => (simp [intOf] <;> omega)
      · have hke : q = set := by omega
        have HW := hide (show least xs (k + 1) (a : Int) set = best by rw [HEQ.out, HR.out, hke])
        clear hke
        go_wp2
        go_ret
        rw [HW.out]
        exact RetI.mk rfl HO.out (HE.out.trans HER.out)

end Go.Proofs.Ytbaljgdepicigaa
