/-
  The first pairing in order: the reference's.
-/
import Derived.Deep.RegionLaw
import Derived.Laws.ShiftsVar
import Derived.Test.YtbaljgdepicigaaBase
import Derived.Test.YtbaljgdepicigaaMathA
import Derived.Test.YtbaljgdepicigaaMathD
import Derived.Test.YtbaljgdepicigaaLib
import Derived.Test.YtbaljgdepicigaaAid
import Derived.Test.YtbaljgdepicigaaStep
import Derived.Test.YtbaljgdepicigaaGrid
import Derived.Test.YtbaljgdepicigaaLibF
import Derived.Test.YtbaljgdepicigaaMathB
import Derived.Test.YtbaljgdepicigaaMathU
import Derived.Test.YtbaljgdepicigaaMathO
import Derived.Test.YtbaljgdepicigaaMathS
import Derived.Test.YtbaljgdepicigaaMathP
import Derived.Test.YtbaljgdepicigaaDblB
import Derived.Test.YtbaljgdepicigaaSwiss
import Derived.Test.YtbaljgdepicigaaSwissB
import Derived.Test.YtbaljgdepicigaaSortA
import Derived.Test.YtbaljgdepicigaaFillD
import Derived.Test.YtbaljgdepicigaaFillE
import Derived.Test.YtbaljgdepicigaaFillF
import Derived.Test.YtbaljgdepicigaaFillG
import Derived.Test.YtbaljgdepicigaaFillH
namespace Go.Proofs.Ytbaljgdepicigaa
open Go.RowKit
set_option linter.unusedVariables false
set_option maxRecDepth 100000

-- words
theorem accA_head {ms left ps : List Int} {k i nl : Nat} (h0 : accA ms left ps k i = []) (hi : i < nl) {p : List Int} (hp : (allStep ms left ps (allL ms k) i).head? = some p) : (accA ms left ps k nl).head? = some p := by
  obtain ⟨m, rfl⟩ : ∃ m, nl = i + 1 + m := ⟨nl - (i + 1), by omega⟩
  clear hi
  induction m with
  | zero => rw [Nat.add_zero, accA_succ, h0, List.nil_append]; exact hp
  | succ m ih => rw [← Nat.add_assoc, accA_succ, List.head?_append, ih]; rfl
-- spec.l24Pair
set_option maxHeartbeats 4000000 in
theorem l24Pair_any (Am : Option Addr) (n cm : Nat) (ms : List Int) (hn8 : n ≤ 8) (hmb : ∀ m ∈ ms, 0 ≤ m ∧ m ≤ 255) : ∀ (k : Nat) (Al : Option Addr) (nl cl : Nat) (left : List Int) (B : Option Addr) (d : Nat) (ps : List Int) (base : Nat) (w : World),
    nl < k → nl ≤ 8 → (∀ x ∈ left, 0 ≤ x ∧ x < (n : Int)) → left.Nodup → Ints w Am n cm ms → Ints w Al nl cl left → Ints w B n d ps → (nl = 0 → OwI w base B n d ps) → base ≤ w.heap.size →
    Calls Try.prog 143 #[.slice Am n cm, .slice Al nl cl, .slice B n d] w fun e w' => ∃ A' c', e = .returned (.tuple #[.slice A' ((allL ms k left ps).head?.getD []).length c', .bool (allL ms k left ps).head?.isSome]) ∧
      OwI w' base A' ((allL ms k left ps).head?.getD []).length c' ((allL ms k left ps).head?.getD []) ∧ Ext w w' := by
  intro k
  induction k with
  | zero => intro Al nl cl left B d ps base w h; omega
  | succ k ih =>
    intro Al nl cl left B d ps base w hk hl8 hlb hnd hM hL hP hpo hbase
    have HM := hide hM
    have HL := hide hL
    have HP := hide hP
    have HLN := hide hL.len
    have HLB := hide hlb
    have HND := hide hnd
    have HMN := hide hM.len
    have HPN := hide hP.len
    have hle := hL.le
    have hmx := hL.max
    have hmle := hM.le
    have hmmx := hM.max
    have hple := hP.le
    have hpmx := hP.max
    have HIH := hide ih
    have HPO := hide hpo
    clear hM hL hP hpo hlb hnd ih
    by_cases h0 : nl = 0
    · subst h0
      have HPO2 := hide (HPO.out rfl)
      have HA := hide (show allL ms (k + 1) left ps = [ps] by simp [allL, HLN.out])
      rw [HA.out]
      go_enter Try.func143, Try.ntmps143
      go_wp2
      go_ret2
      refine ⟨B, d, ?_, ?_, Ext.refl _⟩
      · show _ = Ending.returned (.tuple #[.slice B ps.length d, .bool true])
        rw [HPN.out]; rfl
      · have h9 := HPO2.out
        rw [← HPN.out] at h9
        exact h9
    · have hn0 : 0 < nl := by omega
      have hn0i : (0 : Int) < (nl : Int) := by omega
      have hnz : ((nl : Int) == 0) = false := by simp; omega
      have HA := hide (show allL ms (k + 1) left ps = accA ms left ps k nl by
        simp only [allL, HLN.out]; rw [if_neg h0]; rfl)
      rw [HA.out]
      obtain ⟨ba, oa, xa, rfl, hba, hxa, wxa, hca⟩ := HL.out.get hn0
      have hab := HLB.out xa (List.mem_of_getElem? hxa)
      obtain ⟨a, rfl⟩ : ∃ a : Nat, xa = (a : Int) := ⟨xa.toNat, by omega⟩
      have HXA := hide (show left.getD 0 0 = (a : Int) by rw [List.getD, hxa]; rfl)
      have HXA2 := hide hxa
      have han : a < n := by omega
      simp only [Nat.add_zero] at hca
      clear hxa h0
      go_enter Try.func143, Try.ntmps143
      go_wp2
      go_loopw [24] (fun i wr => ∃ i' : Nat, i' ≤ nl ∧ i = .int .i64 (i' : Int) ∧ Hid (accA ms left ps k i' = []) ∧ Hid (Ext w wr)) (fun i _ => nl - (intOf i).toNat)
      case atStart => exact ⟨0, Nat.zero_le _, rfl, hide rfl, hide (Ext.refl _)⟩
      case round =>
        obtain ⟨i, hi, rfl, HE0, HW⟩ := hrel
        have hwr := HW.out.size
        by_cases hlt : i < nl
        · have hii : (i : Int) < (nl : Int) := by omega
          have HLr := hide (HL.out.ext HW.out)
          obtain ⟨b', o', xb, e, hbb, hxb, wxb, hcb⟩ := HLr.out.get hlt
          cases e
          have hbb2 := HLB.out xb (List.mem_of_getElem? hxb)
          obtain ⟨b, rfl⟩ : ∃ b : Nat, xb = (b : Int) := ⟨xb.toNat, by omega⟩
          have hbn : b < n := by omega
          have HXB := hide (show left.getD i 0 = (b : Int) by rw [List.getD, hxb]; rfl)
          have HMr := hide (HM.out.ext HW.out)
          obtain ⟨bm, om, mm, rfl, hbm, hmm, wmm, hcm⟩ := HMr.out.get han
          have hmr := hmb mm (List.mem_of_getElem? hmm)
          have HBT := hide (and_bit hmr.1 (by omega) b)
          have HMT := hide (show mtP ms (left.getD 0 0) (left.getD i 0) = decide (bitAt mm b = 1) by rw [HXA.out, HXB.out]; unfold mtP; rw [Int.toNat_natCast, Int.toNat_natCast, List.getD, hmm]; rfl)
          have hbi : (0 : Int) ≤ (b : Int) := by omega
          have HINE := hide (show i ≠ 0 → a ≠ b from fun hi0 e => by
            subst e
            have h1 := HXA2.out
            have h2 := hxb
            exact hi0 ((List.getElem?_inj (by rw [HLN.out]; exact hlt) HND.out).1 (h2.trans h1.symm)))
          clear hxb hmm wmm hbb hbm
          by_cases hi0 : i = 0
          · have HS := hide (show accA ms left ps k (i + 1) = [] by rw [accA_succ, HE0.out, show allStep ms left ps (allL ms k) i = [] from if_pos (.inl hi0)]; rfl)
            subst hi0
            simp only [Nat.add_zero] at hcb
            go_wp2
            go_roundw
            case rel => exact ⟨1, by omega, by go_num, HS, HW⟩
            case measure => (simp [intOf] <;> omega)
          · have hib : ((i : Int) == 0) = false := by simp; omega
            have hi1 : 1 ≤ i := by omega
            have hab2 : a ≠ b := HINE.out hi0
            clear HINE
            by_cases hbit : bitAt mm b = 1
            · have HS := hide (show accA ms left ps k (i + 1) = [] by rw [accA_succ, HE0.out, show allStep ms left ps (allL ms k) i = [] from if_pos (.inr (by rw [HMT.out]; simpa using hbit))]; rfl)
              rw [hbit] at HBT
              have hbits := HBT.out
              clear hbit
              go_wp2
              go_roundw
              case rel => exact ⟨i + 1, by omega, by go_num, HS, HW⟩
              case measure => (simp [intOf] <;> omega)
            · have HS := hide (show allStep ms left ps (allL ms k) i = allL ms k ((left.take i).drop 1 ++ left.drop (i + 1)) ((ps.set a (b : Int)).set b (a : Int)) by
                unfold allStep
                rw [if_neg (by rw [HMT.out]; simp [hbit, hi0]), HXA.out, HXB.out, Int.toNat_natCast, Int.toNat_natCast])
              have hb2 : (bitAt mm b == 1) = false := by simpa using hbit
              have hbits := HBT.out
              clear hbit hi0
              generalize bitAt mm b = zb at hbits hb2
              have HPr := hide (HP.out.ext HW.out)
              have HOL := hide (ints_lit0 wr (Nat.le_refl _))
              have HI64a := hide (show I64 (a : Int) from ⟨by omega, by omega⟩)
              have HI64b := hide (show I64 (b : Int) from ⟨by omega, by omega⟩)
              go_wp2_with (at_builtin; refine push_ints rfl (.tmp 41) (.tmp 42) rfl rfl HOL.out B n d ps rfl (HPr.out.ext (Ext.one _ _)) (by omega) (by simp) ?_; intro B4 d4 w4 hb4 hg4 hat4; rw [Nat.zero_add, List.nil_append] at hb4; have HE4 := hide ((Ext.one wr (.cells #[] 3)).grown hg4 (fun q hq => (HOL.out.block q hq).1)); clear hg4 hat4; obtain ⟨bn, on, y1, rfl, hbn0, hbn1, hy1, wy1, k1, k2⟩ := hb4.get han; have HN5 := hide (hb4.store rfl han HI64b.out); obtain ⟨bn', on', y2, e, _, _, hy2, wy2, k3, k4⟩ := HN5.out.get hbn; cases e; have HN6 := hide (HN5.out.store rfl hbn HI64a.out); clear hb4 hy1 hy2 wy1 wy2)
              obtain ⟨w5, hw5⟩ : ∃ w5 : World, w5 = (w4.setCell ⟨bn, on + a, none⟩ (.int .i64 (b : Int))).setCell ⟨bn, on + b, none⟩ (.int .i64 (a : Int)) := ⟨_, rfl⟩
              have HE5 := hide (show Ext wr w5 by rw [hw5]; exact (HE4.out.setCell (p := ⟨bn, on + a, none⟩) hbn0 _).setCell (p := ⟨bn, on + b, none⟩) hbn0 _)
              rw [← hw5] at HN6 ⊢
              clear hw5 k1 k2 k3 k4 HN5 hbn0 hbn1
              have HOL5 := hide (show OwI ((w5.alloc (.cells #[] 3)).drew) w5.heap.size (some ⟨w5.heap.size, 0, none⟩) 0 0 [] from (ints_lit0 w5 (Nat.le_refl _)).ext ((Ext.refl _).drew))
              have hwp1 : IntKind.i64.wrap ((i : Int) + 1) = (i : Int) + 1 := by rw [IntKind.wrap_i64]; omega
              have hmd := run_mid_int (some ⟨ba, oa, none⟩) nl cl 1 i hi1 (by omega) hle 1 (i : Int) rfl rfl
              have htl := run_tail_int (some ⟨ba, oa, none⟩) nl cl (i + 1) (by omega) ((i : Int) + 1) (by omega)
              have HMD := hide (show Ints ((w5.alloc (.cells #[] 3)).drew) (tailA (some ⟨ba, oa, none⟩) cl 1) (i - 1) (cl - 1) ((left.take i).drop 1) from ((HLr.out.ext HE5.out).mid hi1 (by omega)).ext ((Ext.one _ _).drew))
              have HTL := hide (show Ints wr (tailA (some ⟨ba, oa, none⟩) cl (i + 1)) (nl - (i + 1)) (cl - (i + 1)) (left.drop (i + 1)) from HLr.out.tail (by omega))
              have HE5d := hide (show Ext wr ((w5.alloc (.cells #[] 3)).drew) from (HE5.out.alloc _).drew)
              generalize tailA (some ⟨ba, oa, none⟩) cl 1 = TA at *
              generalize tailA (some ⟨ba, oa, none⟩) cl (i + 1) = TB at *
              have HSUB := hide (mid_sub left i)
              have hz5 := HE5.out.size
              have hz5d := HE5d.out.size
              have hsz1 : 0 + (i - 1) ≤ 4294967296 := by omega
              have hsz2 : i - 1 + (nl - (i + 1)) ≤ 4294967296 := by omega
              have hnl2 : i - 1 + (nl - (i + 1)) < k := by omega
              have hnl3 : i - 1 + (nl - (i + 1)) ≤ 8 := by omega
              go_region_law (first
                | (refine step_push_ints rfl (.tmp 52) (.tmp 55) rfl rfl HOL5.out TA (i - 1) (cl - 1) _ rfl HMD.out hsz1 (by simp) ?_; intro B6 d6 w6 hb6 hg6 hat6; rw [Nat.zero_add, List.nil_append] at hb6; have HB6 := hide hb6; have HE6 := hide (HE5d.out.grown hg6 (fun q hq => Nat.le_trans hz5 (HOL5.out.block q hq).1)); have HX6 := hide (((Ext.one w5 (.cells #[] 3)).drew).grown hg6 (fun q hq => (HOL5.out.block q hq).1)); clear hb6 hg6 hat6)
                | (refine step_push_ints rfl (.tmp 56) (.tmp 60) rfl rfl HB6.out TB (nl - (i + 1)) (cl - (i + 1)) _ rfl (HTL.out.ext HE6.out) hsz2 HX6.out.size ?_; intro B7 d7 w7 hb7 hg7 hat7; have HB7 := hide hb7; have HE7 := hide (HE6.out.grown hg7 (fun q hq => Nat.le_trans hz5 (HB6.out.block q hq).1)); have HX7 := hide (HX6.out.grown hg7 (fun q hq => (HB6.out.block q hq).1)); clear hb7 hg7 hat7))
              all_goals (
                have HCL := hide (HIH.out B7 (i - 1 + (nl - (i + 1))) d7 ((left.take i).drop 1 ++ left.drop (i + 1)) (some ⟨bn, on, none⟩) d4 ((ps.set a (b : Int)).set b (a : Int)) base w7 hnl2 hnl3 (fun x hx => HLB.out x (HSUB.out.subset hx)) (HND.out.sublist HSUB.out) (HMr.out.ext HE7.out) HB7.out.ints ((HN6.out.ext HX7.out).ints) (fun _ => (HN6.out.ext HX7.out).mono (by omega)) (by have := HE7.out.size; omega))
                rw [← HS.out] at HCL
                have HW7 := hide (HW.out.trans HE7.out)
                cases hst : (allStep ms left ps (allL ms k) i).head? with
                | none =>
                  have HS2 := hide (show accA ms left ps k (i + 1) = [] by
                    rw [accA_succ, HE0.out, List.nil_append]
                    cases e : allStep ms left ps (allL ms k) i with
                    | nil => rfl
                    | cons y l => rw [e] at hst; cases hst)
                  rw [hst] at HCL
                  clear hst
                  go_simp
                  go_wp2_with (go_at_call 143; refine HCL.out.mono ?_; rintro e w8 ⟨A8, c8, rfl, ho8, hE8⟩)
                  go_roundw
                  case rel => exact ⟨i + 1, by omega, by go_num, HS2, hide (HW7.out.trans hE8)⟩
                  case measure => (simp [intOf] <;> omega)
                | some p =>
                  have HS2 := hide (accA_head HE0.out hlt hst)
                  rw [hst] at HCL
                  clear hst
                  go_simp
                  go_wp2_with (go_at_call 143; refine HCL.out.mono ?_; rintro e w8 ⟨A8, c8, rfl, ho8, hE8⟩)
                  go_ret2
                  rw [HS2.out]
                  exact ⟨A8, c8, rfl, ho8, HW7.out.trans hE8⟩)
        · have hie : i = nl := by omega
          subst hie
          go_wp2
          go_ret2
          rw [HE0.out]
          exact ⟨none, 0, rfl, OwI.nil _ _, HW.out⟩
-- spec.PairSwiss
set_option maxHeartbeats 1000000 in
theorem sPair_any (A : Option Addr) (n c : Nat) (xs : List Int) (A2 : Option Addr) (n2 c2 : Nat) (ms : List Int) (w : World) (h : Ints w A n c xs) (h2 : Ints w A2 n2 c2 ms) :
    Calls Try.prog 75 #[.slice A n c, .slice A2 n2 c2] w (RetIB w (pairV xs ms) (pairB xs ms)) := by
  have HL := hide h.len
  have HL2 := hide h2.len
  have HI := hide h
  have HI2 := hide h2
  have hle := h.le
  have hmx := h.max
  clear h h2
  by_cases hs : swissOk xs ms
  · have hsn := swissOk_n hs
    have hn8 : n ≤ 8 := by have := HL.out; have := hs.1.1; omega
    have hnn : n2 = n := by have := HL.out; have := HL2.out; have := hs.2.1; omega
    subst hnn
    have HNV := hide hsn.1
    have HMB := hide hsn.2
    rw [HL2.out] at HNV
    have hn0 : 0 < n2 := by have := HNV.out; omega
    have HF := hide (show pairO xs ms = (allL ms (n2 + 1) (orderO xs n2) (List.replicate n2 0)).head? by
      unfold pairO; rw [if_pos hs, ← allL_pairings hs, HL2.out])
    have HV := hide (show pairV xs ms = (allL ms (n2 + 1) (orderO xs n2) (List.replicate n2 0)).head?.getD [] ∧ pairB xs ms = (allL ms (n2 + 1) (orderO xs n2) (List.replicate n2 0)).head?.isSome by
      unfold pairV pairB; rw [HF.out]; exact ⟨rfl, rfl⟩)
    have HOR := hide (ordOf_orderO xs n2)
    have HS := hide hs
    have hmk := run_make_ints n2 (by omega)
    clear hsn hs
    rw [HV.out.1, HV.out.2]
    go_enter Try.func75, Try.ntmps75
    go_wp2_with (first
      | (go_at_call 97; refine (sSwissOk_any _ _ _ xs _ _ _ ms _ HI.out HI2.out).mono ?_; rw [decide_eq_true HS.out]; rintro e w1 ⟨rfl, hE1⟩; have HE1 := hide hE1; clear hE1))
    have TOP := hide (fun (W : World) (Z : Nat) (B2 : Option Addr) (d2 : Nat) (hE : Ext w W) (hL : Ints W B2 n2 d2 (orderO xs n2)) (hZ : Ints W (some ⟨Z, 0, none⟩) n2 n2 (List.replicate n2 0)) =>
      l24Pair_any A2 n2 c2 ms hn8 HMB.out (n2 + 1) B2 n2 d2 (orderO xs n2) (some ⟨Z, 0, none⟩) n2 (List.replicate n2 0) w.heap.size W (by omega) hn8 (fun x hx => HOR.out.2.2.1 x hx) HOR.out.1 (HI2.out.ext hE) hL hZ (fun h => absurd h (by omega)) hE.size)
    have HZ1 := hide (OwI.zeros w1 (base := 0) n2 (by omega) (Nat.zero_le _)).ints
    go_region_law (first
      | (go_simp; go_at_call 99; (with_reducible refine (l09_any _ _ _ xs _ (HI.out.ext (HE1.out.drew)) hn8).mono ?_); rintro e w2 ⟨B2, d2, rfl, ho2, hE2⟩; rw [orderO_len] at ho2 ⊢; have HO2 := hide ho2.ints; have HE2 := hide ((HE1.out.drew).trans hE2); clear ho2 hE2)
      | (go_simp; go_at_call 99; (with_reducible refine (l09_any _ _ _ xs _ (HI.out.ext ((HE1.out.alloc (.cells (zeroRow n2) 3)).drew)) hn8).mono ?_); rintro e w2 ⟨B2, d2, rfl, ho2, hE2⟩; rw [orderO_len] at ho2 ⊢; have HO2 := hide ho2.ints; have HE2 := hide (((HE1.out.alloc (.cells (zeroRow n2) 3)).drew).trans hE2); have HZ2 := hide ((HZ1.out.ext (Ext.refl _).drew).ext hE2); clear ho2 hE2)
      | (go_simp; go_at_call 143; (with_reducible refine (TOP.out _ w2.heap.size B2 d2 (HE2.out.alloc (.cells (zeroRow n2) 3)) (HO2.out.ext (Ext.one w2 (.cells (zeroRow n2) 3))) ((OwI.zeros w2 (base := 0) n2 (by omega) (Nat.zero_le _)).ints)).mono ?_); rintro e w3 ⟨A3, c3, rfl, ho3, hE3⟩; have HO3 := hide ho3; have HE3 := hide ((HE2.out.alloc (.cells (zeroRow n2) 3)).trans hE3); clear ho3 hE3)
      | (go_simp; go_at_call 143; (with_reducible refine (TOP.out _ w1.heap.size B2 d2 HE2.out HO2.out HZ2.out).mono ?_); rintro e w3 ⟨A3, c3, rfl, ho3, hE3⟩; have HO3 := hide ho3; have HE3 := hide (HE2.out.trans hE3); clear ho3 hE3))
    all_goals (
      go_simp
      go_wp2
      go_ret2
      exact RetIB.mk rfl rfl HO3.out HE3.out)
  · have HV := hide (show pairV xs ms = [] ∧ pairB xs ms = false by unfold pairV pairB pairO; rw [if_neg hs]; exact ⟨rfl, rfl⟩)
    have HS := hide hs
    clear hs
    rw [HV.out.1, HV.out.2]
    go_enter Try.func75, Try.ntmps75
    go_wp2_with (go_at_call 97; refine (sSwissOk_any _ _ _ xs _ _ _ ms _ HI.out HI2.out).mono ?_; rw [decide_eq_false HS.out]; rintro e w1 ⟨rfl, hE1⟩)
    go_ret2
    exact RetIB.mk rfl rfl (OwI.nil _ _) hE1

end Go.Proofs.Ytbaljgdepicigaa
