/-
  The program's iterator over orders: one list that grows and shrinks, and a closure that calls itself.
-/
import Derived.Laws.ShiftsVar
import Derived.Test.YtbaljgdepicigaaDoorBase
import Derived.Test.YtbaljgdepicigaaDoorMgA
import Derived.Test.YtbaljgdepicigaaDoorLib
import Derived.Test.YtbaljgdepicigaaDoorAid
import Derived.Test.YtbaljgdepicigaaDoorStep
import Derived.Test.YtbaljgdepicigaaDoorGrid
import Derived.Test.YtbaljgdepicigaaDoorLibF
import Derived.Test.YtbaljgdepicigaaDoorMgB
import Derived.Test.YtbaljgdepicigaaDoorRangeA
namespace Go.Proofs.YtbaljgdepicigaaDoor
open Go.RowKit
set_option linter.unusedVariables false
set_option maxRecDepth 100000
attribute [local go_sem] Oper.semAt_some

-- words of extend
def extStep (list o : List Int) (k : Nat) (x : Int) : List (List Int) := if x ∈ o then [] else extL list k (o ++ [x])
theorem extL_succ (list o : List Int) (k : Nat) : extL list (k + 1) o = list.flatMap (extStep list o k) := rfl
structure ExtSt (l bR bL bY bF B : Nat) (Al : Option Addr) (cl : Nat) (list : List Int) (n : Nat) (w : World) (o : List Int) : Prop where
  qr : ∃ A c, w.cell? ⟨bR, 0, none⟩ = some (.slice A o.length c) ∧ OwI w B A o.length c o
  qz : w.frozen? ⟨bR, 0, none⟩ = false
  ql : w.cell? ⟨bL, 0, none⟩ = some (.slice Al n cl)
  qy : w.cell? ⟨bY, 0, none⟩ = some (.func (.yield l) #[] #[])
  qf : w.cell? ⟨bF, 0, none⟩ = some (.func (.func 81) #[] #[.pointer (some ⟨bR, 0, none⟩), .pointer (some ⟨bL, 0, none⟩), .pointer (some ⟨bY, 0, none⟩), .pointer (some ⟨bF, 0, none⟩)])
  qli : Ints w Al n cl list
structure ExtOut (lo hi l bR bL bY bF B B0 : Nat) (Al : Option Addr) : Prop where
  kr : ¬ (lo ≤ bR ∧ bR < hi) ∧ bR ≠ l ∧ bR < B
  kl : ¬ (lo ≤ bL ∧ bL < hi) ∧ bL ≠ l ∧ bL < B ∧ bL ≠ bR
  ky : ¬ (lo ≤ bY ∧ bY < hi) ∧ bY ≠ l ∧ bY < B ∧ bY ≠ bR
  kf : ¬ (lo ≤ bF ∧ bF < hi) ∧ bF ≠ l ∧ bF < B ∧ bF ≠ bR
  al : ∀ k, Al.map (·.block) = some k → ¬ (lo ≤ k ∧ k < hi) ∧ k ≠ l ∧ k < B ∧ k ≠ bR
  hiB : hi ≤ B
  lB : l < B
  low : B0 ≤ bR
section
variable {lo hi l bR bL bY bF B B0 cl n : Nat} {Al : Option Addr} {list o : List Int} {w w' : World}
theorem ExtSt.rnd (h : ExtSt l bR bL bY bF B Al cl list n w o) (ho : ExtOut lo hi l bR bL bY bF B B0 Al) (hr : Rnd lo hi l w w') : ExtSt l bR bL bY bF B Al cl list n w' o := by
  obtain ⟨A, c, h1, h2⟩ := h.qr
  refine ⟨⟨A, c, hr.cell h1 ho.kr.1 ho.kr.2.1, h2.rnd hr fun k hk => ?_⟩, (World.frozen?_of_block (w := w) (a := ⟨bR, 0, none⟩) (hr.block bR (World.block_lt_of_cell? w _ h1) ho.kr.1 ho.kr.2.1)).trans h.qz, hr.cell h.ql ho.kl.1 ho.kl.2.1, hr.cell h.qy ho.ky.1 ho.ky.2.1, hr.cell h.qf ho.kf.1 ho.kf.2.1, h.qli.rnd hr fun k hk => ⟨(ho.al k hk).1, (ho.al k hk).2.1⟩⟩
  have h3 := (h2.block k hk).1
  have h4 := ho.hiB
  have h5 := ho.lB
  omega
theorem ExtSt.ext (h : ExtSt l bR bL bY bF B Al cl list n w o) (hE : Ext w w') : ExtSt l bR bL bY bF B Al cl list n w' o := by
  obtain ⟨A, c, h1, h2⟩ := h.qr
  exact ⟨⟨A, c, hE.get h1, h2.ext hE⟩, (hE.frozen (p := ⟨bR, 0, none⟩) (World.block_lt_of_cell? w _ h1)).trans h.qz, hE.get h.ql, hE.get h.qy, hE.get h.qf, h.qli.ext hE⟩
/-- A new list goes into the box. -/
theorem ExtSt.put {w1 : World} {o' : List Int} {A A' : Option Addr} {c c' : Nat} (h : ExtSt l bR bL bY bF B Al cl list n w o) (ho : ExtOut lo hi l bR bL bY bF B B0 Al) (hb : w.cell? ⟨bR, 0, none⟩ = some (.slice A o.length c)) (hA : OwI w B A o.length c o) (hg : w.grownBy w1 (A.map (·.block))) (hB : B ≤ w.heap.size) (h' : OwI w1 B A' o'.length c' o') :
    ExtSt l bR bL bY bF B Al cl list n (w1.setCell ⟨bR, 0, none⟩ (.slice A' o'.length c')) o' := by
  have hne : ∀ k, k < B → some k ≠ A.map (·.block) := fun k hk e => by have := (hA.block k e.symm).1; omega
  have hs := grown_setCell w1 ⟨bR, 0, none⟩ (.slice A' o'.length c')
  have b1 := hg.cell hb (hne _ ho.kr.2.2)
  refine ⟨⟨A', c', World.cell?_setCell_same' _ _ _ (by rw [b1]; rfl), h'.grown hs ?_⟩, ?_, hs.cell (hg.cell h.ql (hne _ ho.kl.2.2.1)) (by simp [ho.kl.2.2.2]), hs.cell (hg.cell h.qy (hne _ ho.ky.2.2.1)) (by simp [ho.ky.2.2.2]), hs.cell (hg.cell h.qf (hne _ ho.kf.2.2.1)) (by simp [ho.kf.2.2.2]), (h.qli.grown hg ?_).grown hs ?_⟩
  · cases e : A'.map (·.block) with
    | none => exact .inr (by simpa using e)
    | some k => refine .inl fun e2 => ?_; have := (h'.block k e).1; have := ho.kr.2.2; simp at e2; omega
  · rw [World.frozen?_setCell]
    exact (World.frozen?_of_block (w := w) (a := ⟨bR, 0, none⟩) (hg.block bR (World.block_lt_of_cell? w _ hb) (fun e => hne _ ho.kr.2.2 e))).trans h.qz
  · cases e : Al.map (·.block) with
    | none => exact .inr (by simpa using e)
    | some k => exact .inl (hne k (ho.al k e).2.2.1)
  · cases e : Al.map (·.block) with
    | none => exact .inr (by simpa using e)
    | some k => exact .inl (by simp [(ho.al k e).2.2.2])
end
-- impl.orders$1$1
set_option maxHeartbeats 4000000 in
theorem ext_any {lo hi l bR bL bY bF B B0 cl n nn : Nat} {Al : Option Addr} {list : List Int} (hO : ExtOut lo hi l bR bL bY bF B B0 Al) (hn8 : n ≤ 8) (hll : list.length = n) (hnd : list.Nodup)
    (L : List (List Int)) (J : List (List Int) → World → Prop) (Jx : Nat → List (List Int) → World → Prop)
    (hJ : ∀ pre W1 W2, J pre W1 → Below B0 W1 W2 → J pre W2) (hJx : ∀ S pre W1 W2, Jx S pre W1 → Only B0 S W1 W2 → Jx S pre W2)
    (hY : ∀ pre x A c W1, J pre W1 → pre ++ [x] <+: L → Ints W1 A x.length c x → B0 ≤ W1.heap.size →
      YieldAt Fence.wide nn Tryd.prog l #[.slice A x.length c] W1 fun e W2 => Rnd lo hi l W1 W2 ∧ ((e = .returned (.bool true) ∧ J (pre ++ [x]) W2) ∨ (e = .returned (.bool false) ∧ Jx W1.heap.size (pre ++ [x]) W2))) :
    ∀ (k : Nat) (o : List Int) (pre : List (List Int)) (w : World), o.length + k = n → ExtSt l bR bL bY bF B Al cl list n w o → J pre w → pre ++ extL list k o <+: L → B ≤ w.heap.size → B0 ≤ B →
      Calls Tryd.prog 81 #[.pointer (some ⟨bR, 0, none⟩), .pointer (some ⟨bL, 0, none⟩), .pointer (some ⟨bY, 0, none⟩), .pointer (some ⟨bF, 0, none⟩)] w fun e w' =>
        ExtSt l bR bL bY bF B Al cl list n w' o ∧ w.heap.size ≤ w'.heap.size ∧
        ((e = .returned (.bool true) ∧ J (pre ++ extL list k o) w') ∨ (e = .returned (.bool false) ∧ ∃ S pre' x, bR < S ∧ pre' ++ [x] <+: L ∧ Jx S (pre' ++ [x]) w')) := by
  intro k
  induction k with
  | zero =>
    intro o pre w hk hst hj hpre hB hB0
    rw [Nat.add_zero] at hk
    have HFL := hide (show extL list 0 o = [o] from rfl)
    rw [HFL.out] at hpre ⊢
    have HST := hide hst
    obtain ⟨A, c, c0, hA⟩ := hst.qr
    have c1 := hst.ql
    have c2 := hst.qy
    have hbs := World.block_lt_of_cell? w _ c0
    obtain ⟨fn, tmps, assign, body, hy, hR⟩ := hY pre o A c w hj hpre hA.ints (Nat.le_trans hB0 hB)
    rw [hk] at c0 hy
    have HO := hide hO
    have HPRE := hide hpre
    have HHJ := hide hJ
    have HHX := hide hJx
    have HHY := hide hY
    clear hst hA hO hpre hJ hJx hY hnd
    refine (callsIn_wide (n := nn + 1)).1 ?_
    refine callsIn_of_wp Tryd.func81 rfl trivial ?_
    simp only [Tryd.ntmps81, List.size_toArray, List.length_cons, List.length_nil, Nat.reduceAdd, Nat.reduceSub, Array.replicate_succ, Array.replicate_zero, List.push_toArray, List.append_toArray, List.nil_append, List.cons_append]
    gi_wp2
    refine hR.mono ?_
    rintro e w2 ⟨hr, (⟨rfl, hj2⟩ | ⟨rfl, hj2⟩)⟩
    · gi_wp2
      go_ret
      exact ⟨HST.out.rnd HO.out hr, hr.size, .inl ⟨rfl, hj2⟩⟩
    · gi_wp2
      go_ret
      exact ⟨HST.out.rnd HO.out hr, hr.size, .inr ⟨rfl, _, pre, o, hbs, HPRE.out, hj2⟩⟩
  | succ k ih =>
    intro o pre w hk hst hj hpre hB hB0
    have HIH := hide ih
    have HST := hide hst
    have HO := hide hO
    rw [extL_succ] at hpre ⊢
    have HPRE := hide hpre
    have HJ0 := hide hj
    have HHJ := hide hJ
    have HHX := hide hJx
    have HHY := hide hY
    have hR0 := hO.low
    have hRB := hO.kr.2.2
    obtain ⟨A, c, c0, hA⟩ := hst.qr
    have c1 := hst.ql
    obtain ⟨m, hm⟩ : ∃ m, o.length = m := ⟨_, rfl⟩
    have HM := hide hm
    rw [hm] at c0 hk
    have hmn : m < n := by omega
    have hne : ((m : Int) == (n : Int)) = false := by simp; omega
    have hlc := hst.qli.le
    have hlm := hst.qli.max
    clear hst hA hO hpre hj hJ hJx hY hm ih
    go_enter Tryd.func81, Tryd.ntmps81
    go_wp2
    clear c0 c1
    go_loopw [18] (fun i wr => ∃ j : Nat, j ≤ n ∧ i = .int .i64 (j : Int) ∧ Hid (ExtSt l bR bL bY bF B Al cl list n wr o) ∧ Hid (J (pre ++ (list.take j).flatMap (extStep list o k)) wr) ∧ w.heap.size ≤ wr.heap.size) (fun i _ => n - (intOf i).toNat)
    case atStart => exact ⟨0, Nat.zero_le _, rfl, HST, hide (by simpa using HJ0.out), Nat.le_refl _⟩
    case round =>
      obtain ⟨j, hj, rfl, HSr, HJr, hsz⟩ := hrel
      by_cases hlt : j < n
      · have hji : (j : Int) < (n : Int) := by omega
        obtain ⟨bl, ol, x, rfl, hbl, hx, wx, hcx⟩ := HSr.out.qli.get hlt
        have HTK := hide (show (list.take (j + 1)).flatMap (extStep list o k) = (list.take j).flatMap (extStep list o k) ++ extStep list o k x by rw [take_snoc_of hx, List.flatMap_append]; simp)
        obtain ⟨A1, c1, g0, hA1⟩ := HSr.out.qr
        rw [HM.out] at g0 hA1
        have HA1 := hide hA1
        have hmc := hA1.le
        have hmm := hA1.max
        have hz0 := HSr.out.qz
        have hBr : B ≤ wr.heap.size := by omega
        clear hx hbl hA1
        by_cases hin : x ∈ o
        · have HS := hide (show extStep list o k x = [] from if_pos hin)
          have HD := hide (decide_eq_true hin)
          clear hin
          go_wp2_with (go_at_call 54; refine (Contains_any _ _ _ o x _ HA1.out.ints).mono ?_; rw [HD.out]; rintro e w' ⟨rfl, rfl⟩)
          go_roundw
          case rel => exact ⟨j + 1, by omega, by go_num, HSr, hide (by rw [HTK.out, HS.out, List.append_nil]; exact HJr.out), hsz⟩
          case measure => (simp [intOf] <;> omega)
        · have HS := hide (show extStep list o k x = extL list k (o ++ [x]) from if_neg hin)
          have HD := hide (decide_eq_false hin)
          have HLN := hide (show (o ++ [x]).length = m + 1 by simp [HM.out])
          have HPX := hide (show (pre ++ (list.take j).flatMap (extStep list o k)) ++ extL list k (o ++ [x]) <+: L from by
            refine List.IsPrefix.trans ?_ HPRE.out
            rw [← HS.out, List.append_assoc, ← HTK.out]
            refine (List.prefix_append_right_inj pre).2 ?_
            have h7 : list.flatMap (extStep list o k) = (list.take (j + 1) ++ list.drop (j + 1)).flatMap (extStep list o k) := by rw [List.take_append_drop]
            rw [h7, List.flatMap_append]
            exact List.prefix_append _ _)
          have HLX := hide (show Ints (wr.alloc (.cells #[.int .i64 x] 3)) (some ⟨wr.heap.size, 0, none⟩) 1 1 [x] from (ints_lit1 wr (base := 0) x wx (Nat.zero_le _)).ints)
          have hm1 : m + 1 ≤ 4294967296 := by omega
          have HNB := hide (show ∀ q, q < B → some q ≠ A1.map (·.block) from fun q hq e => by have := (HA1.out.block q e.symm).1; omega)
          clear hin
          go_wp2_with (first
            | (go_at_call 54; refine (Contains_any _ _ _ o x _ HA1.out.ints).mono ?_; rw [HD.out]; rintro e w' ⟨rfl, rfl⟩)
            | (at_builtin; refine push_ints rfl (.tmp 25) (.tmp 27) rfl rfl (HA1.out.ext (Ext.one _ _)) (some ⟨wr.heap.size, 0, none⟩) 1 1 [x] rfl HLX.out hm1 (by simp; omega) ?_; intro A5 c5 w5 hb5 hg5 hat5; have HB5 := hide hb5; have HG5 := hide hg5; have g1 := hg5.cell ((Ext.one wr (.cells #[.int .i64 x] 3)).get g0) (HNB.out bR hRB); have g2 := (World.frozen?_of_block (w := wr.alloc (.cells #[.int .i64 x] 3)) (a := ⟨bR, 0, none⟩) (hg5.block bR (by simp; omega) (HNB.out bR hRB))).trans ((Ext.one wr (.cells #[.int .i64 x] 3)).frozen (p := ⟨bR, 0, none⟩) (by show bR < wr.heap.size; omega) |>.trans hz0); have HP := hide (HSr.out.ext (Ext.one wr (.cells #[.int .i64 x] 3)) |>.put HO.out (o' := o ++ [x]) (by rw [HM.out]; exact (Ext.one wr (.cells #[.int .i64 x] 3)).get g0) (by rw [HM.out]; exact HA1.out.ext (Ext.one _ _)) hg5 (by simp; omega) (by rw [HLN.out]; exact hb5)); rw [HLN.out] at HP; have g3 := HP.out.qf; clear hb5 hg5 hat5)
            | fail)
          have HJ5 := hide (HHJ.out _ _ _ HJr.out ((((Below.refl B0 wr).alloc (by omega) (.cells #[.int .i64 x] 3)).grown HG5.out (by simp; omega) (fun k hk => Nat.le_trans hB0 (HA1.out.block k hk).1)).setCell (p := ⟨bR, 0, none⟩) hR0 (.slice A5 (m + 1) c5)))
          have hz5 : wr.heap.size ≤ w5.heap.size := Nat.le_trans (by simp) HG5.out.size
          refine (HIH.out (o ++ [x]) _ _ (by rw [HLN.out]; omega) HP.out HJ5.out HPX.out (by rw [World.size_setCell]; omega) hB0).mono ?_
          rintro e w6 ⟨hs6, hz6, h6⟩
          rw [World.size_setCell] at hz6
          obtain ⟨A6, c6, k0, hA6⟩ := hs6.qr
          obtain ⟨b6, o6, x6, rfl, hb6, _⟩ := hA6.ints.get (k := m) (by rw [HLN.out]; omega)
          rw [HLN.out] at k0 hA6
          have k1 := hs6.qz
          have hmc6 := hA6.le
          have hmm6 := hA6.max
          have HAT := hide (show OwI w6 B (some ⟨b6, o6, none⟩) m c6 o from by
            have := hA6.take (k := m) (by omega)
            rwa [List.take_left' HM.out] at this)
          have HS6 := hide (hs6.put HO.out (o' := o) (w1 := w6) (by rw [HLN.out]; exact k0) (by rw [HLN.out]; exact hA6) (grown_refl _ _) (by omega) (by rw [HM.out]; exact HAT.out))
          rw [HM.out] at HS6
          have hml : (((m + 1 : Nat) : Int)) - 1 = (m : Int) := by omega
          have hz7 : w.heap.size ≤ (w6.setCell ⟨bR, 0, none⟩ (.slice (some ⟨b6, o6, none⟩) m c6)).heap.size := by rw [World.size_setCell]; omega
          clear hs6 hA6
          rcases h6 with ⟨rfl, hj6⟩ | ⟨rfl, S, pre', x', hS, hpp, hx6⟩
          · have HJ7 := hide (HHJ.out _ _ _ hj6 (below_store w6 (k := 0) (.slice (some ⟨b6, o6, none⟩) m c6) hR0))
            clear hj6
            go_wp2
            go_roundw
            case rel => exact ⟨j + 1, by omega, by go_num, HS6, hide (by rw [HTK.out, HS.out, ← List.append_assoc]; exact HJ7.out), hz7⟩
            case measure => (simp [intOf] <;> omega)
          · have HX7 := hide (HHX.out _ _ _ _ hx6 (only_store w6 (k := 0) (.slice (some ⟨b6, o6, none⟩) m c6) hR0 hS))
            have HPP := hide hpp
            clear hx6 hpp
            go_wp2
            go_ret
            exact ⟨HS6.out, hz7, .inr ⟨rfl, S, pre', x', hS, HPP.out, HX7.out⟩⟩
      · have hje : j = n := by omega
        subst hje
        go_wp2
        go_ret
        exact ⟨HSr.out, hsz, .inl ⟨rfl, by have := HJr.out; rwa [take_len hll] at this⟩⟩

end Go.Proofs.YtbaljgdepicigaaDoor
