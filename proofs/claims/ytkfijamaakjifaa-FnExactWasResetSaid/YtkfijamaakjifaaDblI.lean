/-
  Contract of the reference's function that gives the places of a double elimination.
-/
import Derived.Laws.ShiftsVar
import Derived.Deep.RegionHeld3
import Derived.Test.YtkfijamaakjifaaBase
import Derived.Test.YtkfijamaakjifaaMathA
import Derived.Test.YtkfijamaakjifaaMathD
import Derived.Test.YtkfijamaakjifaaLib
import Derived.Test.YtkfijamaakjifaaAid
import Derived.Test.YtkfijamaakjifaaStep
import Derived.Test.YtkfijamaakjifaaGrid
import Derived.Test.YtkfijamaakjifaaLibF
import Derived.Test.YtkfijamaakjifaaMathB
import Derived.Test.YtkfijamaakjifaaMathU
import Derived.Test.YtkfijamaakjifaaMathW
import Derived.Test.YtkfijamaakjifaaMathZ
import Derived.Test.YtkfijamaakjifaaMathY
import Derived.Test.YtkfijamaakjifaaPop
import Derived.Test.YtkfijamaakjifaaMathG
import Derived.Test.YtkfijamaakjifaaMathX
import Derived.Test.YtkfijamaakjifaaMathL
import Derived.Test.YtkfijamaakjifaaMathN
import Derived.Test.YtkfijamaakjifaaDblA
import Derived.Test.YtkfijamaakjifaaTour
import Derived.Test.YtkfijamaakjifaaTourB
import Derived.Test.YtkfijamaakjifaaDblB
import Derived.Test.YtkfijamaakjifaaDblD
import Derived.Test.YtkfijamaakjifaaDblC
import Derived.Test.YtkfijamaakjifaaDblE
import Derived.Test.YtkfijamaakjifaaDblF
namespace Go.Proofs.Ytkfijamaakjifaa
open Go.RowKit
set_option linter.unusedVariables false

-- words of places
theorem DbI.withG {w w' : World} {base : Nat} {A1 A2 A4 : Option Addr} {n1 c1 n2 c2 n4 c4 : Nat} {f s : List Int} {g : List (List Int)} (hb : base ≤ w.heap.size) (h1 : OwI w base A1 n1 c1 f) (h2 : OwI w base A2 n2 c2 s) (ha : Ap (bl A1) (bl A2)) (hE : Ext w w')
    (hG : OwG w' w.heap.size w'.heap.size A4 n4 c4 g) : DbI w' base A1 A2 none A4 none n1 c1 n2 c2 0 0 n4 c4 0 0 f s [] [] g := by
  obtain ⟨hs, hG⟩ := hG
  have fre : ∀ b, (∀ k, b = some k → k < w.heap.size) → Fre A4 hs b := fun b hb => ⟨fun k e e2 => by have := hb k e; have := (hG.ow.block k e2).1; omega, fun i z hz k e e2 => by
    have hi : i < g.length := by rw [← hG.hl]; exact (List.getElem?_eq_some_iff.1 hz).1
    have := ((hG.row i z _ hz (List.getElem?_eq_getElem hi)).ow.block k e2).1
    have := hb k e
    omega⟩
  exact ⟨by have := hE.size; omega, h1.ext hE, h2.ext hE, OwI.nil _ _, OwI.nil _ _, ha, (Ap.no _).symm, (Ap.no _).symm, (Ap.no _).symm, (Ap.no _).symm, Ap.no _, hs, ⟨hG.ow.mono hb, hG.top, hG.hl, fun i x r hx hr => (hG.row i x r hx hr).mono hb (Nat.le_refl _), hG.apart⟩, fre _ h1.lt, fre _ h2.lt, ⟨Ap.no _, fun i z _ => Ap.no _⟩, ⟨Ap.no _, fun i z _ => Ap.no _⟩⟩
theorem DbI.row1 {w : World} {base : Nat} {A1 A2 A3 A4 A5 : Option Addr} {n1 c1 n2 c2 n3 c3 n4 c4 n5 c5 : Nat} {f s p x : List Int} {g : List (List Int)} (h : DbI w base A1 A2 A3 A4 A5 n1 c1 n2 c2 n3 c3 n4 c4 n5 c5 f s p x g) {k : Nat} (hk : k < n4) :
    ∃ b off B d r, A4 = some ⟨b, off, none⟩ ∧ b < w.heap.size ∧ g[k]? = some r ∧ w.cell? ⟨b, off + k, none⟩ = some (.slice B r.length d) ∧ Ints w B r.length d r ∧ Ap (bl A1) (bl B) := by
  obtain ⟨hs, h1, h2, _⟩ := h.g
  have hg := h1.grid
  obtain ⟨b, off, v, e, hb, hv, hc⟩ := hg.rd.get hk
  rw [List.getElem?_map] at hv
  have hkr : k < g.length := by rw [hg.len]; exact hk
  have hkh : k < hs.length := by rw [hg.hl]; exact hkr
  rw [List.getElem?_eq_getElem hkh] at hv
  simp at hv
  have hr := hg.row k hs[k] g[k] (List.getElem?_eq_getElem hkh) (List.getElem?_eq_getElem hkr)
  have hln := hr.len
  refine ⟨b, off, hs[k].1, hs[k].2.2, g[k], e, hb, List.getElem?_eq_getElem hkr, ?_, by rw [hln]; exact hr, h2.2 k _ (List.getElem?_eq_getElem hkh)⟩
  rw [hc, ← hv, hln]; rfl
theorem outTo_len (g : List (List Int)) (k : Nat) : (outTo g k).length ≤ k := by
  induction k with
  | zero => simp [outTo]
  | succ k ih => simp only [outTo]; split <;> (try simp only [List.length_cons]) <;> omega
theorem finTo_len (g : List (List Int)) (o : List Int) (k : Nat) : (finTo g o k).length ≤ o.length + k := by
  induction k with
  | zero => simp [finTo]
  | succ k ih => simp only [finTo]; split <;> (try simp only [List.length_cons]) <;> omega
theorem loss_le (g : List (List Int)) (k : Nat) (a : Int) : lossOf (g.take k) a ≤ g.length := by
  unfold lossOf
  have h1 := List.countP_le_length (p := fun x : List Int => x.getD 1 0 == a) (l := g.take k)
  have h2 : (g.take k).length ≤ g.length := by simp; omega
  omega
theorem finTo_step (g : List (List Int)) (o : List Int) (k : Nat) : finTo g o (k + 1) = if lossOf g k < 2 then (k : Int) :: finTo g o k else finTo g o k := rfl
-- spec.DoublePlaces
set_option maxHeartbeats 4000000 in
set_option maxRecDepth 100000 in
theorem sPlaces2_any (s : Int) (A : Option Addr) (n c : Nat) (xs : List Int) (w : World) (h : Ints w A n c xs) :
    Calls Try.prog 28 #[.agg #[.int .i64 s, .slice A n c]] w (RetI w (placesOf2 s xs)) := by
  have HI := hide h
  by_cases ht : tourOk s xs
  · have hz := tourOk_size ht
    rw [h.len] at hz
    obtain ⟨hn1, hn8, rfl⟩ := hz
    have HT := hide ht
    have HV := hide (show placesOf2 (n : Int) xs = finTo (doubleG xs (upto n)) (outTo (doubleG xs (upto n)) (doubleG xs (upto n)).length) n by unfold placesOf2; rw [if_pos ht, h.len, places_same xs (by omega)])
    have HP := hide (show ∀ x ∈ doubleG xs (upto n), ∃ u v : Nat, x = [(u : Int), (v : Int)] ∧ u < n ∧ v < n from fun x hx => by
      obtain ⟨u, v, e, _, hu, hv⟩ := double_two xs (upto_nodup n) x hx
      have hu := upto_mem.1 hu
      have hv := upto_mem.1 hv
      exact ⟨u.toNat, v.toNat, by rw [e, Int.toNat_of_nonneg hu.1, Int.toNat_of_nonneg hv.1], by omega, by omega⟩)
    have hgl : (doubleG xs (upto n)).length ≤ 16 := by rw [doubleG_len]; have := lenD_le xs (upto n); rw [upto_len] at this; omega
    clear ht h
    have hmk := run_make_ints n (by omega)
    go_enter Try.func28, Try.ntmps28
    go_wp2_with fail
    obtain ⟨W, hW⟩ : ∃ W : World, W = w.alloc (.cells #[.int .i64 (n : Int), .slice A n c] 28) := ⟨_, rfl⟩
    have HE := hide (show Ext w W by rw [hW]; exact Ext.one _ _)
    have B0 := hide (show W.cell? ⟨w.heap.size, 0, none⟩ = some (.int .i64 (n : Int)) by rw [hW]; simp)
    have B1 := hide (show W.cell? ⟨w.heap.size, 1, none⟩ = some (.slice A n c) by rw [hW]; simp)
    rw [← hW]
    clear hW
    refine (sTourOk_any _ _ _ _ xs _ (HI.out.ext HE.out)).mono ?_
    rw [decide_eq_true HT.out]
    rintro e w1 ⟨rfl, hE1⟩
    have c0 := hE1.get B0.out
    have c1 := hE1.get B1.out
    have HZ := hide ((OwI.zeros w1 (base := W.heap.size) n (by omega) hE1.size).ext (Ext.one _ (.cells #[] 3)))
    have HO := hide (show OwI ((w1.alloc (.cells (zeroRow n) 3)).alloc (.cells #[] 3)) W.heap.size (some ⟨w1.heap.size + 1, 0, none⟩) 0 0 [] by
      simpa using ints_lit0 (w1.alloc (.cells (zeroRow n) 3)) (base := W.heap.size) (by have := hE1.size; simp; omega))
    have HAP := hide (show Ap (bl (some ⟨w1.heap.size, 0, none⟩)) (bl (some ⟨w1.heap.size + 1, 0, none⟩)) from fun k e e2 => by simp [bl] at e e2; omega)
    have HB := hide (show W.heap.size ≤ ((w1.alloc (.cells (zeroRow n) 3)).alloc (.cells #[] 3)).heap.size by have := hE1.size; simp; omega)
    have HE2 := hide (hE1.trans (((Ext.refl w1).alloc (.cells (zeroRow n) 3)).alloc (.cells #[] 3)))
    go_wp2
    generalize ((w1.alloc (.cells (zeroRow n) 3)).alloc (.cells #[] 3)) = w2 at *
    have c0 := HE2.out.get B0.out
    have c1 := HE2.out.get B1.out
    have KS := hide (show ∀ w', Ext w2 w' → (Ext w2 w' ∧ w'.cell? ⟨w.heap.size, 0, none⟩ = some (.int .i64 (n : Int)) ∧ w'.cell? ⟨w.heap.size, 1, none⟩ = some (.slice A n c)) from fun w' hh => ⟨hh, hh.get c0, hh.get c1⟩)
    clear hE1 c0 c1
    go_region_held3 (fun w' => Ext w2 w' ∧ w'.cell? ⟨w.heap.size, 0, none⟩ = some (.int .i64 (n : Int)) ∧ w'.cell? ⟨w.heap.size, 1, none⟩ = some (.slice A n c))
      (first | exact KS.out _ (Ext.refl _) | exact KS.out _ (Ext.refl _).drew | exact KS.out _ ((Ext.refl _).drew.trans hE3) | exact KS.out _ (((Ext.refl _).drew.trans hE3).trans hE4))
      (first | (go_at_call 48; refine (l23First_any _ _ _ n _ hn8).mono ?_; rintro e w3 ⟨B, d, rfl, hoB, hE3⟩) | (go_at_call 58; refine (l23Play_any _ _ _ _ xs _ _ _ (upto n) _ HT.out (HI.out.ext (HE.out.trans (HE2.out.trans ((Ext.refl w2).drew.trans hE3)))) hoB.ints upto_nat (by rw [upto_len]; exact hn8) (upto_nodup n)).mono ?_; rintro e w4 ⟨G, g, rfl, hoG, hE4⟩))
    go_wp2
    have HG1 := hide (show Ext W w4 from HE2.out.trans (((Ext.refl w2).drew.trans hE3).trans hE4))
    have HD0 := hide (DbI.withG (base := W.heap.size) (by have := HB.out; have := hE3.size; simp at *; omega) (HZ.out.ext ((Ext.refl w2).drew.trans hE3)) (HO.out.ext ((Ext.refl w2).drew.trans hE3)) HAP.out hE4 hoG)
    have hlb : w1.heap.size < w2.heap.size := (HZ.out.block _ rfl).2
    clear hE3 hE4 hoG hoB KS HZ HO hmk
    generalize w1.heap.size = lb at *
    generalize doubleG xs (upto n) = gs at *
    generalize hm : gs.length = m at *
    have HGL := hide hm
    clear hm
    go_loopw [4, 21] (fun o i wr => ∃ (k n2 c2 : Nat) (A2 : Option Addr), k ≤ m ∧ i = .int .i64 (k : Int) ∧ o = .slice A2 n2 c2 ∧ Hid (DbI wr W.heap.size (some ⟨lb, 0, none⟩) A2 none G none n n n2 c2 0 0 m g 0 0 (lostTo gs n k) (outTo gs k) [] [] gs) ∧ Ext W wr) (fun _ i _ => m - (intOf i).toNat)
    case atStart => exact ⟨0, 0, 0, _, Nat.zero_le _, rfl, rfl, hide (by rw [lostTo_zero]; exact HD0.out), HG1.out⟩
    case round =>
      obtain ⟨k, n2, c2, A2, hk, rfl, rfl, HD, hE⟩ := hrel
      have HER := hide hE
      clear hE
      have hn2 : n2 ≤ 16 := by have h1 := HD.out.s.len; have h2 := outTo_len gs k; omega
      by_cases hlt : k < m
      · obtain ⟨b, off, B, d, r, hA, hbl, hr, hc, hi, hap⟩ := HD.out.row1 hlt
        obtain ⟨u, v, e, hu, hv⟩ := HP.out r (List.mem_of_getElem? hr)
        subst e
        obtain ⟨b2, o2, y, hB, hb2, hy, wy, hcy⟩ := hi.get (k := 1) (by simp)
        simp at hy
        subst hy
        subst hA hB
        obtain ⟨b3, o3, x, e3, hb3, hl3, hx, wx, hcx, hfx⟩ := HD.out.f.get (k := v) hv
        cases e3
        have hx2 := (lostTo_get gs k hv).symm.trans hx
        simp at hx2
        have hL16 : lossOf (gs.take k) (v : Int) ≤ 16 := by have h1 := loss_le gs k (v : Int); have h2 := HGL.out; omega
        have HLS := hide (lostTo_step hr hv)
        have HOS := hide (outTo_step hr)
        have hne : ¬ lb = b2 := fun e => hap lb rfl (by rw [e]; rfl)
        have hne2 : ¬ b2 = lb := fun e => hne e.symm
        have HO1 := hide (HD.out.f.store rfl hv (x := (lossOf (gs.take k) (v : Int) : Int) + 1) ⟨by omega, by omega⟩)
        simp only [Nat.zero_add] at hcx hfx HO1
        rw [← hx2] at hcx
        clear hr hx hi hap
        generalize lossOf (gs.take k) (v : Int) = L at *
        have HDS := hide (HD.out.put1 (grownBy_setC wr lb v (.int .i64 ((L : Int) + 1))) (fun k e => by cases e; rfl) HO1.out (.inr (.inl rfl)))
        have HERS := hide (HER.out.setCell (p := ⟨lb, v, none⟩) hb3 (.int .i64 ((L : Int) + 1)))
        have HSZ : (wr.setCell ⟨lb, v, none⟩ (.int .i64 ((L : Int) + 1))).heap.size = wr.heap.size := by simp [World.setCell]
        have HLT := hide (show OwI ((wr.setCell ⟨lb, v, none⟩ (.int .i64 ((L : Int) + 1))).alloc (.cells #[.int .i64 (v : Int)] 3)) (wr.setCell ⟨lb, v, none⟩ (.int .i64 ((L : Int) + 1))).heap.size (some ⟨wr.heap.size, 0, none⟩) 1 1 [(v : Int)] by
          have h9 := ints_lit1 (wr.setCell ⟨lb, v, none⟩ (.int .i64 ((L : Int) + 1))) (base := (wr.setCell ⟨lb, v, none⟩ (.int .i64 ((L : Int) + 1))).heap.size) (v : Int) ⟨by omega, by omega⟩ (Nat.le_refl _)
          rw [HSZ] at h9 ⊢
          exact h9)
        clear hx2 HSZ
        by_cases h2 : L + 1 = 2
        · have hbe : ((L : Int) + 1 == 2) = true := by rw [beq_iff_eq]; omega
          have H2 := hide h2
          clear h2
          go_wp2_with (at_builtin; refine push_ints (base := (wr.setCell ⟨lb, v, none⟩ (.int .i64 ((L : Int) + 1))).heap.size) rfl (.tmp 43) (.tmp 44) rfl rfl HLT.out A2 n2 c2 (outTo gs k) rfl (HDS.out.s.ints.ext (Ext.one _ _)) (by omega) (by simp) ?_; intro B5 d5 w5 hb5 hg5 hat5)
          have HE5 := hide ((Ext.one (wr.setCell ⟨lb, v, none⟩ (.int .i64 ((L : Int) + 1))) (.cells #[.int .i64 (v : Int)] 3)).grown hg5 (fun k hk => (HLT.out.block k hk).1))
          have HD5 := hide (HDS.out.new2 HE5.out hb5)
          clear hb5 hg5 hat5
          have HE6 := hide (HERS.out.trans HE5.out)
          clear HDS HERS HLT HE5 HO1
          go_roundw
          case rel => exact ⟨k + 1, 1 + n2, d5, B5, by omega, by go_num, rfl, hide (by rw [HLS.out, HOS.out, if_pos H2.out]; exact HD5.out), HE6.out⟩
          case measure => (simp [intOf] <;> omega)
        · have hbe : ((L : Int) + 1 == 2) = false := by rw [beq_eq_false_iff_ne]; omega
          have H2 := hide h2
          clear h2
          go_wp2
          go_roundw
          case rel => exact ⟨k + 1, n2, c2, A2, by omega, by go_num, rfl, hide (by rw [HLS.out, HOS.out, if_neg H2.out]; exact HDS.out), HERS.out⟩
          case measure => (simp [intOf] <;> omega)
      · have hke : k = m := by omega
        subst hke
        have HT1 := hide (show gs.take k = gs from take_len HGL.out)
        have HD1 := hide HD.out
        clear HD HD0
        go_wp2
        go_loopw [4, 49] (fun o i wr => ∃ (a n2 c2 : Nat) (A2 : Option Addr), a ≤ n ∧ i = .int .i64 (a : Int) ∧ o = .slice A2 n2 c2 ∧ Hid (DbI wr W.heap.size (some ⟨lb, 0, none⟩) A2 none G none n n n2 c2 0 0 k g 0 0 (lostTo gs n k) (finTo gs (outTo gs k) a) [] [] gs) ∧ Ext W wr) (fun _ i _ => n - (intOf i).toNat)
        case atStart => exact ⟨0, n2, c2, A2, Nat.zero_le _, rfl, rfl, HD1, HER.out⟩
        case round =>
          obtain ⟨a, n3, c3, A3, ha, rfl, rfl, HD, hE⟩ := hrel
          have HER2 := hide hE
          clear hE
          have hn3 : n3 ≤ 24 := by have h1 := HD.out.s.len; have h2 := outTo_len gs k; have h3 := finTo_len gs (outTo gs k) a; omega
          by_cases hlt : a < n
          · obtain ⟨b3, o3, x, e3, hb3, hl3, hx, wx, hcx, hfx⟩ := HD.out.f.get hlt
            cases e3
            have hx2 := (lostTo_get gs k hlt).symm.trans hx
            rw [HT1.out] at hx2
            simp at hx2
            subst hx2
            have HFS := hide (finTo_step gs (outTo gs k) a)
            simp only [Nat.zero_add] at hcx hfx
            clear hx
            generalize lossOf gs (a : Int) = L at *
            have HLT := hide (ints_lit1 wr (base := wr.heap.size) (a : Int) ⟨by omega, by omega⟩ (Nat.le_refl _))
            by_cases h2 : L < 2
            · have h2i : (L : Int) < 2 := by omega
              have H2 := hide h2
              clear h2
              go_wp2_with (at_builtin; refine push_ints (base := wr.heap.size) rfl (.tmp 57) (.tmp 58) rfl rfl HLT.out A3 n3 c3 (finTo gs (outTo gs k) a) rfl (HD.out.s.ints.ext (Ext.one _ _)) (by omega) (by simp) ?_; intro B5 d5 w6 hb5 hg5 hat5)
              have HE5 := hide ((Ext.one wr (.cells #[.int .i64 (a : Int)] 3)).grown hg5 (fun k hk => (HLT.out.block k hk).1))
              have HD5 := hide (HD.out.new2 HE5.out hb5)
              clear hb5 hg5 hat5
              have HE6 := hide (HER2.out.trans HE5.out)
              clear HLT HE5 HD
              go_roundw
              case rel => exact ⟨a + 1, 1 + n3, d5, B5, by omega, by go_num, rfl, hide (by rw [HFS.out, if_pos H2.out]; exact HD5.out), HE6.out⟩
              case measure => (simp [intOf] <;> omega)
            · have h2i : ¬ (L : Int) < 2 := by omega
              have H2 := hide h2
              clear h2
              go_wp2
              go_roundw
              case rel => exact ⟨a + 1, n3, c3, A3, by omega, by go_num, rfl, hide (by rw [HFS.out, if_neg H2.out]; exact HD.out), HER2.out⟩
              case measure => (simp [intOf] <;> omega)
          · have hae : a = n := by omega
            subst hae
            go_wp2
            go_ret
            rw [HV.out]
            exact RetI.mk rfl (HD.out.s.mono (by have := HE.out.size; omega)) (HE.out.trans HER2.out)
  · have HV := hide (show placesOf2 s xs = [] by unfold placesOf2; rw [if_neg ht])
    have HT := hide ht
    clear ht h
    go_enter Try.func28, Try.ntmps28
    go_wp2_with fail
    refine (sTourOk_any _ _ _ _ xs _ (HI.out.ext (Ext.one _ _))).mono ?_
    rw [decide_eq_false HT.out]
    rintro e w1 ⟨rfl, hE1⟩
    go_wp2
    go_ret
    rw [HV.out]
    exact RetI.mk rfl (OwI.nil _ _) ((Ext.one _ _).trans hE1)

end Go.Proofs.Ytkfijamaakjifaa
