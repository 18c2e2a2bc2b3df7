/-
  The program's closure that fills pairings: what it hands to yield, whatever the loop's body does.
-/
import Derived.Laws.ShiftsVar
import Derived.Test.YtbaljgdepicigaaBase
import Derived.Test.YtbaljgdepicigaaMathA
import Derived.Test.YtbaljgdepicigaaMathD
import Derived.Test.YtbaljgdepicigaaLib
import Derived.Test.YtbaljgdepicigaaAid
import Derived.Test.YtbaljgdepicigaaStep
import Derived.Test.YtbaljgdepicigaaGrid
import Derived.Test.YtbaljgdepicigaaLibF
import Derived.Test.YtbaljgdepicigaaMathB
import Derived.Test.YtbaljgdepicigaaMathU
import Derived.Test.YtbaljgdepicigaaMathS
import Derived.Test.YtbaljgdepicigaaMathP
import Derived.Test.YtbaljgdepicigaaSwiss
import Derived.Test.YtbaljgdepicigaaSwissB
import Derived.Test.YtbaljgdepicigaaRangeA
import Derived.Test.YtbaljgdepicigaaFillA
namespace Go.Proofs.Ytbaljgdepicigaa
open Go.RowKit
set_option linter.unusedVariables false
set_option maxRecDepth 100000
attribute [local go_sem] Oper.semAt_some

-- impl.pairings$1$1$1
theorem isFree_any {base n q bP i : Nat} {ps : List Int} (w : World) (hp : w.cell? ⟨bP, 0, none⟩ = some (.slice (some ⟨q, 0, none⟩) n n)) (ho : OwI w base (some ⟨q, 0, none⟩) n n ps) (hi : i < n) (hn : n ≤ 8) :
    Calls Try.prog 153 #[.int .i64 (i : Int), .pointer (some ⟨bP, 0, none⟩)] w fun e w' => e = .returned (.bool (frP ps (i : Int))) ∧ w = w' := by
  obtain ⟨b, off, x, e, _, _, hx, wx, hc, _⟩ := ho.get hi
  cases e
  have HF := hide (show frP ps (i : Int) = decide (x < 0) by rw [frP_nat, List.getD, hx]; rfl)
  simp only [Nat.zero_add] at hc
  clear ho hx
  go_enter Try.func153, Try.ntmps153
  go_wp2
  go_ret
  exact ⟨ret_bool HF.out.symm, rfl⟩
-- words of fill
structure FillSt (l q bO bP bY bM bF : Nat) (Ao : Option Addr) (co : Nat) (order : List Int) (Am : Option Addr) (cm : Nat) (ms : List Int) (n : Nat) (w : World) (ps : List Int) : Prop where
  o : w.cell? ⟨bO, 0, none⟩ = some (.slice Ao n co)
  p : w.cell? ⟨bP, 0, none⟩ = some (.slice (some ⟨q, 0, none⟩) n n)
  y : w.cell? ⟨bY, 0, none⟩ = some (.func (.yield l) #[] #[])
  m : w.cell? ⟨bM, 0, none⟩ = some (.slice Am n cm)
  f : w.cell? ⟨bF, 0, none⟩ = some (.func (.func 152) #[] #[.pointer (some ⟨bO, 0, none⟩), .pointer (some ⟨bP, 0, none⟩), .pointer (some ⟨bY, 0, none⟩), .pointer (some ⟨bM, 0, none⟩), .pointer (some ⟨bF, 0, none⟩)])
  oi : Ints w Ao n co order
  mi : Ints w Am n cm ms
  pi : OwI w 0 (some ⟨q, 0, none⟩) n n ps
structure FillOut (lo hi l q bO bP bY bM bF B : Nat) (Ao Am : Option Addr) : Prop where
  o : ¬ (lo ≤ bO ∧ bO < hi) ∧ bO ≠ l ∧ bO ≠ q
  p : ¬ (lo ≤ bP ∧ bP < hi) ∧ bP ≠ l ∧ bP ≠ q
  y : ¬ (lo ≤ bY ∧ bY < hi) ∧ bY ≠ l ∧ bY ≠ q
  m : ¬ (lo ≤ bM ∧ bM < hi) ∧ bM ≠ l ∧ bM ≠ q
  f : ¬ (lo ≤ bF ∧ bF < hi) ∧ bF ≠ l ∧ bF ≠ q
  sq : ¬ (lo ≤ q ∧ q < hi) ∧ q ≠ l
  ao : ∀ k, Ao.map (·.block) = some k → ¬ (lo ≤ k ∧ k < hi) ∧ k ≠ l ∧ k ≠ q
  am : ∀ k, Am.map (·.block) = some k → ¬ (lo ≤ k ∧ k < hi) ∧ k ≠ l ∧ k ≠ q
  low : B ≤ q
section
variable {lo hi l q bO bP bY bM bF B co cm n : Nat} {Ao Am : Option Addr} {order ms ps : List Int} {w w' : World}
theorem FillSt.rnd (h : FillSt l q bO bP bY bM bF Ao co order Am cm ms n w ps) (ho : FillOut lo hi l q bO bP bY bM bF B Ao Am) (hr : Rnd lo hi l w w') : FillSt l q bO bP bY bM bF Ao co order Am cm ms n w' ps :=
  ⟨hr.cell h.o ho.o.1 ho.o.2.1, hr.cell h.p ho.p.1 ho.p.2.1, hr.cell h.y ho.y.1 ho.y.2.1, hr.cell h.m ho.m.1 ho.m.2.1, hr.cell h.f ho.f.1 ho.f.2.1, h.oi.rnd hr fun k hk => ⟨(ho.ao k hk).1, (ho.ao k hk).2.1⟩, h.mi.rnd hr fun k hk => ⟨(ho.am k hk).1, (ho.am k hk).2.1⟩,
    h.pi.rnd hr fun k hk => by cases hk; exact ho.sq⟩
theorem FillSt.ext (h : FillSt l q bO bP bY bM bF Ao co order Am cm ms n w ps) (hE : Ext w w') : FillSt l q bO bP bY bM bF Ao co order Am cm ms n w' ps :=
  ⟨hE.get h.o, hE.get h.p, hE.get h.y, hE.get h.m, hE.get h.f, h.oi.ext hE, h.mi.ext hE, h.pi.ext hE⟩
theorem FillSt.store (h : FillSt l q bO bP bY bM bF Ao co order Am cm ms n w ps) (ho : FillOut lo hi l q bO bP bY bM bF B Ao Am) {k : Nat} (hk : k < n) {v : Int} (hv : I64 v) :
    FillSt l q bO bP bY bM bF Ao co order Am cm ms n (w.setCell ⟨q, k, none⟩ (.int .i64 v)) (ps.set k v) := by
  have hg := grown_setCell w ⟨q, k, none⟩ (.int .i64 v)
  refine ⟨hg.cell h.o (by simp [ho.o.2.2]), hg.cell h.p (by simp [ho.p.2.2]), hg.cell h.y (by simp [ho.y.2.2]), hg.cell h.m (by simp [ho.m.2.2]), hg.cell h.f (by simp [ho.f.2.2]), h.oi.grown hg ?_, h.mi.grown hg ?_, ?_⟩
  · cases e : Ao.map (·.block) with
    | none => exact .inr (by simpa using e)
    | some k => exact .inl (by simp [(ho.ao k e).2.2])
  · cases e : Am.map (·.block) with
    | none => exact .inr (by simpa using e)
    | some k => exact .inl (by simp [(ho.am k e).2.2])
  · have := h.pi.store rfl hk hv
    rwa [Nat.zero_add] at this
end
theorem set_back {ps : List Int} {a b : Nat} {u v : Int} (ha : ps[a]? = some (-1)) (hb : ps[b]? = some (-1)) : ((((ps.set a u).set b v).set a (-1)).set b (-1)) = ps := by
  refine List.ext_getElem? fun i => ?_
  simp only [List.getElem?_set, List.length_set]
  have hal := (List.getElem?_eq_some_iff.1 ha).1
  have hbl := (List.getElem?_eq_some_iff.1 hb).1
  by_cases e1 : b = i
  · subst e1; have := (List.getElem?_eq_some_iff.1 hb).2; simp [hbl, this]
  · by_cases e2 : a = i
    · subst e2; have := (List.getElem?_eq_some_iff.1 ha).2; simp [e1, hal, this]
    · simp [e1, e2]
-- impl.pairings$1$1
set_option maxHeartbeats 4000000 in
theorem fill_any {lo hi l q bO bP bY bM bF B co cm n nn : Nat} {Ao Am : Option Addr} {order ms : List Int} (hO : FillOut lo hi l q bO bP bY bM bF B Ao Am) (hord : ordOf n order) (hn8 : n ≤ 8) (hml : ms.length = n) (hmb : ∀ m ∈ ms, 0 ≤ m ∧ m ≤ 255)
    (L : List (List Int)) (J : List (List Int) → World → Prop) (Jx : Nat → List (List Int) → World → Prop)
    (hJ : ∀ pre W1 W2, J pre W1 → Below B W1 W2 → J pre W2) (hJx : ∀ S pre W1 W2, Jx S pre W1 → Only B S W1 W2 → Jx S pre W2)
    (hY : ∀ pre x A c W1, J pre W1 → pre ++ [x] <+: L → Ints W1 A x.length c x → B ≤ W1.heap.size →
      YieldAt Fence.wide nn Try.prog l #[.slice A x.length c] W1 fun e W2 => Rnd lo hi l W1 W2 ∧ ((e = .returned (.bool true) ∧ J (pre ++ [x]) W2) ∨ (e = .returned (.bool false) ∧ Jx W1.heap.size (pre ++ [x]) W2))) :
    ∀ (k : Nat) (ps : List Int) (pre : List (List Int)) (w : World), partP n ps → nfree ps < k → FillSt l q bO bP bY bM bF Ao co order Am cm ms n w ps → J pre w → pre ++ fillL order ms k ps <+: L → B ≤ w.heap.size →
      Calls Try.prog 152 #[.pointer (some ⟨bO, 0, none⟩), .pointer (some ⟨bP, 0, none⟩), .pointer (some ⟨bY, 0, none⟩), .pointer (some ⟨bM, 0, none⟩), .pointer (some ⟨bF, 0, none⟩)] w fun e w' =>
        FillSt l q bO bP bY bM bF Ao co order Am cm ms n w' ps ∧ w.heap.size ≤ w'.heap.size ∧
        ((e = .returned (.bool true) ∧ J (pre ++ fillL order ms k ps) w') ∨ (e = .returned (.bool false) ∧ ∃ S pre' x, q < S ∧ pre' ++ [x] <+: L ∧ Jx S (pre' ++ [x]) w')) := by
  intro k
  induction k with
  | zero => intro ps pre w _ h; omega
  | succ k ih =>
    intro ps pre w hp hnf hst hj hpre hB
    have HST := hide hst
    have HP := hide hp
    have hpl : ps.length = n := hp.len
    have hqs : q < w.heap.size := (hst.pi.block q rfl).2
    have EG := hide (show Enters Try.prog 153 from enters_of Try.func153 (by kernel_rfl) rfl)
    have HPR := hide (show PredI 153 #[.pointer (some ⟨bP, 0, none⟩)] (frP ps) order w from fun W x hx hE => by
      have hxo := hord.2.2.1 x hx
      obtain ⟨i, rfl⟩ : ∃ i : Nat, x = (i : Int) := ⟨x.toNat, by omega⟩
      exact (isFree_any W (hE.get HST.out.p) (HST.out.pi.ext hE) (by omega) hn8).mono fun e w' ⟨h1, h2⟩ => ⟨h1, by rw [h2]; exact Ext.refl _⟩)
    have HJ := hide hj
    have HPRE := hide hpre
    have HO := hide hO
    have HYY := hide hY
    have c0 := hst.o
    have c1 := hst.p
    have c2 := hst.y
    clear hj hpre hst hp hO hY
    by_cases hat : idxF (frP ps) order < 0
    · have HFL := hide (show fillL order ms (k + 1) ps = [ps] by simp [fillL, hat])
      rw [HFL.out] at HPRE
      rw [HFL.out]
      refine (callsIn_wide (n := nn + 1)).1 ?_
      refine callsIn_of_wp Try.func152 rfl trivial ?_
      simp only [Try.ntmps152, List.size_toArray, List.length_cons, List.length_nil, Nat.reduceAdd, Nat.reduceSub, Array.replicate_succ, Array.replicate_zero, List.push_toArray, List.append_toArray, List.nil_append, List.cons_append]
      gi_wp2_with (first | fail | (refine ⟨trivial, ?_⟩; gi_at_call 140; refine (callsIn_wide.2 (IndexFunc_any _ _ (frP ps) EG.out _ _ _ order _ HST.out.oi HPR.out)).mono ?_; rintro e w1 ⟨rfl, hE1⟩; have d1 := hE1.get c1; have d2 := hE1.get c2; obtain ⟨fn, tmps, assign, body, hy, hR⟩ := HYY.out pre ps (some ⟨q, 0, none⟩) n w1 (hJ _ _ _ HJ.out (Below.mono hE1 hB)) HPRE.out (by rw [hpl]; exact HST.out.pi.ints.ext hE1) (Nat.le_trans hB hE1.size); rw [hpl] at hy; have HE1 := hide hE1; clear hE1))
      refine hR.mono ?_
      rintro e w2 ⟨hr, (⟨rfl, hj2⟩ | ⟨rfl, hj2⟩)⟩
      · gi_wp2
        go_ret
        exact ⟨(HST.out.ext HE1.out).rnd HO.out hr, Nat.le_trans HE1.out.size hr.size, .inl ⟨rfl, hj2⟩⟩
      · gi_wp2
        go_ret
        exact ⟨(HST.out.ext HE1.out).rnd HO.out hr, Nat.le_trans HE1.out.size hr.size, .inr ⟨rfl, _, pre, ps, Nat.lt_of_lt_of_le hqs HE1.out.size, HPRE.out, hj2⟩⟩
    · obtain ⟨a, ha, hat2, hfa, hbefore, hnin⟩ := fill_at hord hpl hat
      have hib := idxF_bound (frP ps) order
      rw [hord.2.1] at hib
      obtain ⟨at_, hat3⟩ : ∃ at_ : Nat, idxF (frP ps) order = (at_ : Int) := ⟨(idxF (frP ps) order).toNat, by omega⟩
      rw [hat3, Int.toNat_natCast] at hat2 hbefore hnin
      rw [hat3] at hib
      have han : at_ < n := by omega
      have HFL := hide (fillL_succ (n := n) (ms := ms) (k := k) hat3 hat2)
      rw [HFL.out] at HPRE
      rw [HFL.out]
      have HA3 := hide hat3
      have HAT2 := hide hat2
      have HNIN := hide hnin
      obtain ⟨T, hT⟩ : ∃ T, T = order.drop (at_ + 1) := ⟨_, rfl⟩
      have HT := hide hT
      rw [← hT] at HPRE HFL HNIN
      rw [← hT]
      have HTL := hide (show ∀ (W : World) (ps' : List Int), FillSt l q bO bP bY bM bF Ao co order Am cm ms n W ps' → Ints W (tailA Ao co (at_ + 1)) (n - (at_ + 1)) (co - (at_ + 1)) T from fun W ps' h => by rw [HT.out]; exact h.oi.tail (by omega))
      have htl := run_tail_int Ao n co (at_ + 1) (by omega) ((at_ : Int) + 1) (by omega)
      obtain ⟨TA, hTA⟩ : ∃ TA, TA = tailA Ao co (at_ + 1) := ⟨_, rfl⟩
      rw [← hTA] at HTL htl
      obtain ⟨nT, hnT⟩ : ∃ nT, nT = n - (at_ + 1) := ⟨_, rfl⟩
      rw [← hnT] at HTL htl
      obtain ⟨cT, hcT⟩ : ∃ cT, cT = co - (at_ + 1) := ⟨_, rfl⟩
      rw [← hcT] at HTL htl
      have hnT8 : nT ≤ 8 := by omega
      have HCO := hide (HTL.out w ps HST.out).max
      have HCL := hide (HTL.out w ps HST.out).le
      have HLT := hide (HTL.out w ps HST.out).len
      obtain ⟨bo, oo, ao, hAo, hbo, hxo, wxo, hco⟩ := HST.out.oi.get han
      obtain rfl : ao = (a : Int) := by have h9 := HAT2.out; rw [hxo] at h9; simpa using h9
      clear hat hat2 hat3 hnin hT hTA hnT hcT hbefore hxo
      refine (callsIn_wide (n := nn + 1)).1 ?_
      refine callsIn_of_wp Try.func152 rfl trivial ?_
      simp only [Try.ntmps152, List.size_toArray, List.length_cons, List.length_nil, Nat.reduceAdd, Nat.reduceSub, Array.replicate_succ, Array.replicate_zero, List.push_toArray, List.append_toArray, List.nil_append, List.cons_append]
      subst hAo
      gi_wp2_with (first | fail | (refine ⟨trivial, ?_⟩; gi_at_call 140; refine (callsIn_wide.2 (IndexFunc_any _ _ (frP ps) EG.out _ _ _ order _ HST.out.oi HPR.out)).mono ?_; rw [HA3.out]; rintro e w1 ⟨rfl, hE1⟩; have d0 := hE1.get c0; have d1 := hE1.get c1; have d2 := hE1.get c2; have d3 := hE1.get hco; have HE1 := hide hE1; clear hE1))
      have HB1 := hide (Below.mono HE1.out hB)
      clear d0 d1 d2 d3
      gi_loopw [28] (fun i wr => ∃ j : Nat, j ≤ nT ∧ i = .int .i64 (j : Int) ∧ Hid (FillSt l q bO bP bY bM bF (some ⟨bo, oo, none⟩) co order Am cm ms n wr ps) ∧ Hid (J (pre ++ (T.take j).flatMap (fillStep ms ps (a : Int) (fillL order ms k))) wr) ∧ w.heap.size ≤ wr.heap.size) (fun i _ => nT - (intOf i).toNat)
      case atStart => exact ⟨0, Nat.zero_le _, rfl, hide (HST.out.ext HE1.out), hide (by simpa using hJ _ _ _ HJ.out HB1.out), HE1.out.size⟩
      case round =>
        obtain ⟨j, hj, rfl, HSr, HJr, hsz⟩ := hrel
        by_cases hlt : j < nT
        · have hji : (j : Int) < (nT : Int) := by omega
          obtain ⟨bt, ot, b', rfl, hbt, hxb, wxb, hcb⟩ := (HTL.out wr ps HSr.out).get hlt
          have hbm := List.mem_of_getElem? hxb
          have hbo2 := hord.2.2.1 b' (List.mem_of_mem_drop (by rw [HT.out] at hbm; exact hbm))
          obtain ⟨b, rfl⟩ : ∃ b : Nat, b' = (b : Int) := ⟨b'.toNat, by omega⟩
          have hbn : b < n := by omega
          have hab : a ≠ b := fun e => HNIN.out (e ▸ hbm)
          have HXB := hide hxb
          have HTK := hide (show (T.take (j + 1)).flatMap (fillStep ms ps (a : Int) (fillL order ms k)) = (T.take j).flatMap (fillStep ms ps (a : Int) (fillL order ms k)) ++ fillStep ms ps (a : Int) (fillL order ms k) (b : Int) by rw [take_snoc_of hxb, List.flatMap_append]; simp)
          have e0 := HSr.out.p
          have e1 := HSr.out.m
          have e2 := HSr.out.f
          obtain ⟨bq, oq, y, e, _, hqs2, hy, wy, hcy, hfy⟩ := HSr.out.pi.get hbn
          cases e
          obtain ⟨bm, om, mm, hAm, hbm2, hm, wm, hcm⟩ := HSr.out.mi.get ha
          obtain ⟨bq, oq, z, e, _, _, hz, wz, hcz, hfz⟩ := HSr.out.pi.get ha
          cases e
          have hmm := hmb mm (List.mem_of_getElem? hm)
          have HBT := hide (and_bit hmm.1 (by omega) b)
          have HG := hide (show ms.getD a 0 = mm ∧ ps.getD b 0 = y by simp [List.getD, hm, hy])
          simp only [Nat.zero_add] at hcy hfy hcz hfz
          have HMT := hide (show mtP ms (a : Int) (b : Int) = decide (bitAt mm b = 1) by unfold mtP; rw [Int.toNat_natCast, Int.toNat_natCast, HG.out.1])
          have HYP := hide hy
          have HZP := hide hz
          clear hxb hbm hbt hy hm hz wm wxb
          subst hAm
          have hbi : (0 : Int) ≤ (b : Int) := by omega
          have hbi2 : (b : Int) < (n : Int) := by omega
          by_cases hy0 : 0 ≤ y
          · have HFS := hide (show fillStep ms ps (a : Int) (fillL order ms k) (b : Int) = [] from if_pos (.inl (by rw [frP_nat, HG.out.2]; simp; omega)))
            gi_wp2
            go_roundw
            case rel => exact ⟨j + 1, by omega, by go_num, HSr, hide (by rw [HTK.out, HFS.out, List.append_nil]; exact HJr.out), hsz⟩
            case measure => (simp [intOf] <;> omega)
          · by_cases hbit : bitAt mm b = 1
            · have HFS := hide (show fillStep ms ps (a : Int) (fillL order ms k) (b : Int) = [] from if_pos (.inr (by rw [HMT.out]; simpa using hbit)))
              rw [hbit] at HBT
              have hbits := HBT.out
              clear hbit
              gi_wp2
              go_roundw
              case rel => exact ⟨j + 1, by omega, by go_num, HSr, hide (by rw [HTK.out, HFS.out, List.append_nil]; exact HJr.out), hsz⟩
              case measure => (simp [intOf] <;> omega)
            · have hfb : ps.getD b 0 < 0 := by rw [HG.out.2]; omega
              have HFS := hide (show fillStep ms ps (a : Int) (fillL order ms k) (b : Int) = fillL order ms k ((ps.set a (b : Int)).set b (a : Int)) by
                unfold fillStep
                rw [if_neg (by rw [frP_nat, HG.out.2, HMT.out]; simp [hbit]; omega), Int.toNat_natCast, Int.toNat_natCast])
              have HP2 := hide (HP.out.pair ha hbn hab hfa hfb)
              have hnf2 := nfree_pair HP.out.len ha hbn hab hfa hfb
              have hb2 : (bitAt mm b == 1) = false := by simpa using hbit
              have hbits := HBT.out
              clear hbit
              generalize bitAt mm b = zb at hbits hb2
              have hI64a : I64 (a : Int) := ⟨by omega, by omega⟩
              have hI64b : I64 (b : Int) := ⟨by omega, by omega⟩
              have HSA := hide ((HSr.out.store HO.out ha hI64b).store HO.out hbn hI64a)
              have HSB := hide (show FillSt l q bO bP bY bM bF (some ⟨bo, oo, none⟩) co order (some ⟨bm, om, none⟩) cm ms n ((wr.setCell ⟨q, b, none⟩ (.int .i64 (a : Int))).setCell ⟨q, a, none⟩ (.int .i64 (b : Int))) ((ps.set a (b : Int)).set b (a : Int)) by
                rw [List.set_comm _ _ hab]; exact (HSr.out.store HO.out hbn hI64a).store HO.out ha hI64b)
              have HPX := hide (show (pre ++ (T.take j).flatMap (fillStep ms ps (a : Int) (fillL order ms k))) ++ fillL order ms k ((ps.set a (b : Int)).set b (a : Int)) <+: L from by
                refine List.IsPrefix.trans ?_ HPRE.out
                rw [← HFS.out, List.append_assoc, ← HTK.out]
                refine (List.prefix_append_right_inj pre).2 ?_
                conv => rhs; rw [← List.take_append_drop (j + 1) T, List.flatMap_append]
                exact List.prefix_append _ _)
              have HBQ := hide HO.out.low
              obtain ⟨bq, oq, y2, e, _, _, hy2, _, g2, g3⟩ := (HSr.out.store HO.out ha hI64b).pi.get hbn
              cases e
              obtain ⟨bq, oq, z2, e, _, _, hz2, _, g5, g6⟩ := (HSr.out.store HO.out hbn hI64a).pi.get ha
              cases e
              have g1 := (HSr.out.store HO.out ha hI64b).p
              have g4 := (HSr.out.store HO.out hbn hI64a).p
              simp only [Nat.zero_add] at g2 g3 g5 g6
              clear hy2 hz2
              have g7 := HSA.out.f
              have g8 := HSB.out.f
              have HCALL := hide (show ∀ W : World, FillSt l q bO bP bY bM bF (some ⟨bo, oo, none⟩) co order (some ⟨bm, om, none⟩) cm ms n W ((ps.set a (b : Int)).set b (a : Int)) → J (pre ++ (T.take j).flatMap (fillStep ms ps (a : Int) (fillL order ms k))) W → w.heap.size ≤ W.heap.size → _ from
                fun W h1 h2 h3 => ih ((ps.set a (b : Int)).set b (a : Int)) (pre ++ (T.take j).flatMap (fillStep ms ps (a : Int) (fillL order ms k))) W HP2.out (by omega) h1 h2 HPX.out (Nat.le_trans hB h3))
              have HJA := hide (hJ _ _ _ HJr.out (((below_store wr (B := B) (q := q) (k := a) (.int .i64 (b : Int)) HBQ.out).trans (below_store _ (k := b) (.int .i64 (a : Int)) HBQ.out)).drew))
              have HJB := hide (hJ _ _ _ HJr.out (((below_store wr (B := B) (q := q) (k := b) (.int .i64 (a : Int)) HBQ.out).trans (below_store _ (k := a) (.int .i64 (b : Int)) HBQ.out)).drew))
              gi_wp2
              gi_region
              all_goals gi_wp2_with fail
              all_goals (first
                | refine ⟨trivial, (callsIn_wide.2 (HCALL.out _ (HSA.out.ext ((Ext.refl _).drew)) HJA.out (by simpa [World.setCell] using hsz))).mono ?_⟩
                | refine ⟨trivial, (callsIn_wide.2 (HCALL.out _ (HSB.out.ext ((Ext.refl _).drew)) HJB.out (by simpa [World.setCell] using hsz))).mono ?_⟩)
              all_goals (
                rintro e w5 ⟨hs5, hz5, hc5⟩
                have hz6 : w.heap.size ≤ w5.heap.size := Nat.le_trans hsz (by simpa [World.setCell] using hz5)
                clear g1 g2 g3 g4 g5 g6 g7 g8 hz5
                have HS5 := hide hs5
                have g0 := hs5.p
                obtain ⟨bq, oq, y3, e, _, _, hy3, _, k1, k2⟩ := hs5.pi.get hbn
                cases e
                obtain ⟨bq, oq, z3, e, _, _, hz3, _, k3, k4⟩ := hs5.pi.get ha
                cases e
                have hm1 : I64 (-1) := ⟨by omega, by omega⟩
                obtain ⟨bq, oq, y4, e, _, _, hy4, _, g2, g3⟩ := (hs5.store HO.out ha hm1).pi.get hbn
                cases e
                obtain ⟨bq, oq, z4, e, _, _, hz4, _, g5, g6⟩ := (hs5.store HO.out hbn hm1).pi.get ha
                cases e
                have g1 := (hs5.store HO.out ha hm1).p
                have g4 := (hs5.store HO.out hbn hm1).p
                simp only [Nat.zero_add] at g2 g3 g5 g6 k1 k2 k3 k4
                clear hy3 hz3 hy4 hz4
                have HLA := hide (show ps[a]? = some (-1) by have := HP.out.low a ha hfa; rw [HZP.out]; rw [List.getD, HZP.out] at this; simpa using this)
                have HLB := hide (show ps[b]? = some (-1) by have := HP.out.low b hbn hfb; rw [HYP.out]; rw [List.getD, HYP.out] at this; simpa using this)
                have HA5 := hide (show FillSt l q bO bP bY bM bF (some ⟨bo, oo, none⟩) co order (some ⟨bm, om, none⟩) cm ms n ((w5.setCell ⟨q, a, none⟩ (.int .i64 (-1))).setCell ⟨q, b, none⟩ (.int .i64 (-1))) ps by
                  have := (hs5.store HO.out ha hm1).store HO.out hbn hm1
                  rwa [set_back HLA.out HLB.out] at this)
                have HB5 := hide (show FillSt l q bO bP bY bM bF (some ⟨bo, oo, none⟩) co order (some ⟨bm, om, none⟩) cm ms n ((w5.setCell ⟨q, b, none⟩ (.int .i64 (-1))).setCell ⟨q, a, none⟩ (.int .i64 (-1))) ps by
                  have := (hs5.store HO.out hbn hm1).store HO.out ha hm1
                  rwa [List.set_comm (-1) (-1) (l := (ps.set a (b : Int)).set b (a : Int)) (Ne.symm hab), set_back HLA.out HLB.out] at this)
                clear hs5
                rcases hc5 with ⟨rfl, hj5⟩ | ⟨rfl, S, pre', x, hqS, hpp, hx5⟩
                · have HJ5 := hide hj5
                  rw [← HFS.out, List.append_assoc, ← HTK.out] at HJ5
                  have HJA5 := hide (hJ _ _ _ HJ5.out (((below_store w5 (B := B) (q := q) (k := a) (.int .i64 (-1)) HBQ.out).trans (below_store _ (k := b) (.int .i64 (-1)) HBQ.out)).drew))
                  have HJB5 := hide (hJ _ _ _ HJ5.out (((below_store w5 (B := B) (q := q) (k := b) (.int .i64 (-1)) HBQ.out).trans (below_store _ (k := a) (.int .i64 (-1)) HBQ.out)).drew))
                  clear hj5
                  gi_wp2
                  gi_region
                  all_goals gi_wp2
                  all_goals go_roundw
                  all_goals (first
                    | exact ⟨j + 1, by omega, by go_num, hide (HA5.out.ext ((Ext.refl _).drew)), HJA5, by simpa [World.setCell] using hz6⟩
                    | exact ⟨j + 1, by omega, by go_num, hide (HB5.out.ext ((Ext.refl _).drew)), HJB5, by simpa [World.setCell] using hz6⟩
                    | (simp [intOf] <;> omega))
                · have HXA5 := hide (hJx _ _ _ _ hx5 (((only_store w5 (B := B) (q := q) (k := a) (.int .i64 (-1)) HBQ.out hqS).trans (only_store _ (k := b) (.int .i64 (-1)) HBQ.out hqS)).trans (only_drew _ _ _)))
                  have HXB5 := hide (hJx _ _ _ _ hx5 (((only_store w5 (B := B) (q := q) (k := b) (.int .i64 (-1)) HBQ.out hqS).trans (only_store _ (k := a) (.int .i64 (-1)) HBQ.out hqS)).trans (only_drew _ _ _)))
                  have HPP := hide hpp
                  clear hpp hx5
                  gi_wp2
                  gi_region
                  all_goals gi_wp2
                  all_goals go_ret
                  all_goals (first
                    | exact ⟨HA5.out.ext ((Ext.refl _).drew), by simpa [World.setCell] using hz6, .inr ⟨rfl, S, pre', x, hqS, HPP.out, HXA5.out⟩⟩
                    | exact ⟨HB5.out.ext ((Ext.refl _).drew), by simpa [World.setCell] using hz6, .inr ⟨rfl, S, pre', x, hqS, HPP.out, HXB5.out⟩⟩))
        · have hje : j = nT := by omega
          subst hje
          gi_wp2
          go_ret
          exact ⟨HSr.out, hsz, .inl ⟨rfl, by have := HJr.out; rwa [take_len HLT.out] at this⟩⟩

end Go.Proofs.Ytbaljgdepicigaa
