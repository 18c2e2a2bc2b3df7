/-
  Contracts of the functions that play games of a tour, one after the other: single elimination.
-/
import Derived.Laws.ShiftsVar
import Derived.Deep.RegionLaw
import Derived.Deep.RegionHeld3
import Derived.Test.YtbaljgdepicigaaBase
import Derived.Test.YtbaljgdepicigaaMathA
import Derived.Test.YtbaljgdepicigaaMathD
import Derived.Test.YtbaljgdepicigaaLib
import Derived.Test.YtbaljgdepicigaaAid
import Derived.Test.YtbaljgdepicigaaStep
import Derived.Test.YtbaljgdepicigaaGrid
import Derived.Test.YtbaljgdepicigaaLibF
import Derived.Test.YtbaljgdepicigaaMathB
import Derived.Test.YtbaljgdepicigaaMathU
import Derived.Test.YtbaljgdepicigaaMathW
import Derived.Test.YtbaljgdepicigaaMathZ
import Derived.Test.YtbaljgdepicigaaMathY
import Derived.Test.YtbaljgdepicigaaPop
import Derived.Test.YtbaljgdepicigaaMathG
import Derived.Test.YtbaljgdepicigaaMathX
import Derived.Test.YtbaljgdepicigaaDblA
import Derived.Test.YtbaljgdepicigaaSeed
import Derived.Test.YtbaljgdepicigaaTour
import Derived.Test.YtbaljgdepicigaaTourB
namespace Go.Proofs.Ytbaljgdepicigaa
open Go.RowKit
set_option linter.unusedVariables false

-- words
theorem full_wrapD {s : Int} (h0 : 0 ≤ s) (h8 : s ≤ 8) : wrap64 (wrap64 (2 ^ s.toNat) - 1) = (fullS s : Int) := by
  have h2 : (2 : Nat) ^ s.toNat ≤ 2 ^ 8 := Nat.pow_le_pow_right (by omega) (by omega)
  have h3 : ((2 ^ s.toNat : Nat) : Int) = (2 : Int) ^ s.toNat := by simp
  have h4 := Nat.two_pow_pos s.toNat
  rw [← h3]
  unfold fullS
  generalize (2 : Nat) ^ s.toNat = p at *
  unfold wrap64
  omega
theorem mems_full : ∀ n : Nat, n < 9 → mems (2 ^ n - 1) = upto n := by decide
theorem meetG_yes {xs : List Int} {p q : Nat} (h : bts xs p q) : won xs (p : Int) (q : Int) = p ∧ lostG xs (p : Int) (q : Int) = q := by simp [won, lostG, beatsI, h]
theorem meetG_no {xs : List Int} {p q : Nat} (h : ¬ bts xs p q) : won xs (p : Int) (q : Int) = q ∧ lostG xs (p : Int) (q : Int) = p := by simp [won, lostG, beatsI, h]
theorem set_repD {α : Type} (l : List α) (n k : Nat) (z x : α) (hl : l.length = k) (hk : k < n) : (l ++ List.replicate (n - k) z).set k x = l ++ [x] ++ List.replicate (n - (k + 1)) z := by
  subst hl
  obtain ⟨m, hm⟩ : ∃ m, n - l.length = m + 1 := ⟨n - l.length - 1, by omega⟩
  rw [hm, List.replicate_succ, show n - (l.length + 1) = m by omega]
  rw [List.set_append_right _ _ (Nat.le_refl _)]
  simp
theorem upto_fill (n k : Nat) (h : k < n) : (upto k ++ List.replicate (n - k) 0).set k (k : Int) = upto (k + 1) ++ List.replicate (n - (k + 1)) 0 := by
  rw [upto_snoc]; exact set_repD _ n k 0 _ (upto_len k) h
-- indices
theorem indices_any (n : Nat) (w : World) (hn : n ≤ 65536) :
    Calls Try.prog 84 #[.int .i64 (n : Int)] w (RetI w (upto n)) := by
  have hmk := run_make_ints n (by omega)
  go_enter Try.func84, Try.ntmps84
  go_wp2
  have h0 := (OwI.zeros w (base := w.heap.size) n (by omega) (Nat.le_refl _))
  go_loopw [9] (fun i wr => ∃ k : Nat, k ≤ n ∧ i = .int .i64 k ∧ Hid (OwI wr w.heap.size (some ⟨w.heap.size, 0, none⟩) n n (upto k ++ List.replicate (n - k) 0)) ∧ Ext w wr) (fun i _ => n - (intOf i).toNat)
  case atStart => exact ⟨0, Nat.zero_le _, rfl, hide (by simpa [upto] using h0), Ext.one _ _⟩
  case round =>
    obtain ⟨k, hk, rfl, ho, hE⟩ := hrel
    by_cases hlt : k < n
    · obtain ⟨b', off', y, e, hb', hlt', hy, wy, hc', hf'⟩ := ho.out.get hlt
      cases e
      have ho1 := ho.out.store rfl hlt (x := (k : Int)) ⟨by omega, by omega⟩
      simp only [Nat.zero_add] at hc' hf' ho1
      have HO := hide ho1
      clear hy h0 ho1
      have HE := hide hE; clear hE
      have hk0 : (0 : Int) ≤ (k : Int) := by omega
      have hkn : (k : Int) < (n : Int) := by omega
      go_wp2
      go_roundw
      case rel => exact ⟨k + 1, by omega, by go_num, hide (by have hs := HO.out; rwa [upto_fill n k hlt] at hs), HE.out.setCell (Nat.le_refl _) _⟩
      case measure => (simp [intOf] <;> omega)
    · have : k = n := by omega
      subst this
      have HO := hide ho.out; clear ho h0
      go_wp2
      go_ret
      have ho := HO.out
      rw [Nat.sub_self, List.replicate_zero, List.append_nil] at ho
      exact RetI.mk rfl ho hE
-- play
theorem play_any (s : Int) (A : Option Addr) (n c : Nat) (xs : List Int) (p q : Nat) (w : World) (ht : tourOk s xs) (h : Ints w A n c xs) (hp : p < n) (hq : q < n) :
    Calls Try.prog 137 #[.agg #[.int .i64 s, .slice A n c], .int .i64 (p : Int), .int .i64 (q : Int)] w (RetI w [won xs (p : Int) (q : Int), lostG xs (p : Int) (q : Int)]) := by
  have hz := tourOk_size ht
  rw [h.len] at hz
  have H_h := hide h
  have HX0 := hide (fun x hx => (tourOk_row ht x hx).1)
  have hn8 : n ≤ 8 := hz.2.1
  clear h ht hz
  by_cases hb : bts xs p q
  · have HB := hide hb
    have HM := hide (meetG_yes hb)
    clear hb
    go_enter Try.func137, Try.ntmps137
    go_wp2_with fail
    refine (iBeats_any _ _ _ _ xs p q _ (H_h.out.ext (Ext.one _ _)) hp (by omega) HX0.out).mono ?_
    rw [decide_eq_true HB.out]
    rintro e w1 ⟨rfl, hE1⟩
    go_wp2
    go_ret
    rw [HM.out.1, HM.out.2]
    exact RetI.mk rfl (ints_lit2 _ _ _ ⟨by omega, by omega⟩ ⟨by omega, by omega⟩ (by have := hE1.size; simp at this; omega)) (((Ext.one _ _).trans hE1).alloc _)
  · have HB := hide hb
    have HM := hide (meetG_no hb)
    clear hb
    go_enter Try.func137, Try.ntmps137
    go_wp2_with fail
    refine (iBeats_any _ _ _ _ xs p q _ (H_h.out.ext (Ext.one _ _)) hp (by omega) HX0.out).mono ?_
    rw [decide_eq_false HB.out]
    rintro e w1 ⟨rfl, hE1⟩
    go_wp2
    go_ret
    rw [HM.out.1, HM.out.2]
    exact RetI.mk rfl (ints_lit2 _ _ _ ⟨by omega, by omega⟩ ⟨by omega, by omega⟩ (by have := hE1.size; simp at this; omega)) (((Ext.one _ _).trans hE1).alloc _)
theorem play_uv (s : Int) (A : Option Addr) (n c : Nat) (xs : List Int) (p q u v : Nat) (w : World) (ht : tourOk s xs) (h : Ints w A n c xs) (hp : p < n) (hq : q < n) (hu : won xs (p : Int) (q : Int) = u) (hv : lostG xs (p : Int) (q : Int) = v) :
    Calls Try.prog 137 #[.agg #[.int .i64 s, .slice A n c], .int .i64 (p : Int), .int .i64 (q : Int)] w fun e w' => ∃ B d, e = .returned (.slice B 2 d) ∧ OwI w' w.heap.size B 2 d [(u : Int), (v : Int)] ∧ Ext w w' :=
  (play_any s A n c xs p q w ht h hp hq).mono fun e w' hh => by rw [hu, hv] at hh; exact hh
-- single words
theorem won_mem {xs : List Int} {n : Nat} {p q : Nat} (hp : p < n) (hq : q < n) : ∃ (u v : Nat), won xs (p : Int) (q : Int) = u ∧ lostG xs (p : Int) (q : Int) = v ∧ u < n ∧ v < n := by
  rcases won_lost xs (p : Int) (q : Int) with ⟨h1, h2⟩ | ⟨h1, h2⟩
  · exact ⟨p, q, h1, h2, hp, hq⟩
  · exact ⟨q, p, h1, h2, hq, hp⟩
theorem stS_get {xs : List Int} {n j k : Nat} {x : Int} (hj : j + 1 ≤ n) (h : (stS xs (upto n) j).r[k]? = some x) : ∃ p : Nat, x = (p : Int) ∧ p < n := by
  have h1 := upto_mem.1 (stS_mem xs (upto n) (j := j) (by rw [upto_len]; exact hj) x (List.mem_of_getElem? h))
  exact ⟨x.toNat, by omega, by omega⟩
theorem getD_of {l : List Int} {k : Nat} {x : Int} (h : l[k]? = some x) : l.getD k 0 = x := by rw [List.getD, h]; rfl
-- impl.SingleGames
def singleOf (s : Int) (xs : List Int) : List (List Int) := if tourOk s xs then singleG xs (upto xs.length) else []
theorem iSingle_any (s : Int) (A : Option Addr) (n c : Nat) (xs : List Int) (w : World) (h : Ints w A n c xs) :
    Calls Try.prog 70 #[.agg #[.int .i64 s, .slice A n c]] w (RetG w (singleOf s xs)) := by
  have HI := hide h
  by_cases ht : tourOk s xs
  · have hz := tourOk_size ht
    rw [h.len] at hz
    obtain ⟨hn1, hn8, rfl⟩ := hz
    have HT := hide ht
    have HV := hide (show singleOf (n : Int) xs = (stS xs (upto n) (n - 1)).g by unfold singleOf singleG; rw [if_pos ht, h.len, upto_len])
    clear ht h
    go_enter Try.func70, Try.ntmps70
    go_wp2_with fail
    obtain ⟨W, hW⟩ : ∃ W : World, W = w.alloc (.cells #[.int .i64 (n : Int), .slice A n c] 33) := ⟨_, rfl⟩
    have HE := hide (show Ext w W by rw [hW]; exact Ext.one _ _)
    have B0 := hide (show W.cell? ⟨w.heap.size, 0, none⟩ = some (.int .i64 (n : Int)) by rw [hW]; simp)
    have B1 := hide (show W.cell? ⟨w.heap.size, 1, none⟩ = some (.slice A n c) by rw [hW]; simp)
    rw [← hW]
    clear hW
    refine (iTourOk_any _ _ _ _ xs _ (HI.out.ext HE.out)).mono ?_
    rw [decide_eq_true HT.out]
    rintro e w1 ⟨rfl, hE1⟩
    have c0 := hE1.get B0.out
    have c1 := hE1.get B1.out
    have HE1 := hide (HE.out.trans hE1)
    go_wp2_with fail
    refine (indices_any n _ (by omega)).mono ?_
    rintro e w2 ⟨B, d, rfl, hoB, hE2⟩
    have C0 := hide c0
    have C1 := hide c1
    have HE2 := hide hE2
    have HD0 := hide (DbI.start_nil hE2.size hoB)
    have hbl := hoB.le
    have hbm := hoB.max
    rw [upto_len] at *
    clear hoB hE1 hE2 c0 c1
    go_wp2
    go_loopw [3, 4] (fun o i wr => ∃ (j n1 c1 c4 : Nat) (A1 A4 : Option Addr), j + 1 ≤ n ∧ n1 + j = n ∧ o = .slice A4 j c4 ∧ i = .slice A1 n1 c1 ∧ Hid (DbI wr w1.heap.size A1 none none A4 none n1 c1 0 0 0 0 j c4 0 0 (stS xs (upto n) j).r [] [] [] (stS xs (upto n) j).g) ∧ Ext w1 wr) (fun _ i _ => match i with | .slice _ k _ => k | _ => 0)
    case atStart => exact ⟨0, n, d, 0, B, none, by omega, by omega, rfl, rfl, HD0, HE2.out⟩
    case round =>
      obtain ⟨j, n1, c1, c4, A1, A4, hj, hn, rfl, rfl, HD, hE⟩ := hrel
      have HER := hide hE
      have e0 := hE.get C0.out
      have e1 := hE.get C1.out
      clear hE
      have hc1 := HD.out.f.le
      have hc2 := HD.out.f.max
      by_cases hlt : 1 < n1
      · obtain ⟨b, o, x0, e, hb, hbl, hx0, wx0, hcx0, _⟩ := HD.out.f.get (k := 0) (by omega)
        obtain ⟨b', o', x1, e', hb', hbl', hx1, wx1, hcx1, _⟩ := HD.out.f.get (k := 1) (by omega)
        obtain ⟨p, rfl, hp⟩ := stS_get hj hx0
        obtain ⟨q, rfl, hq⟩ := stS_get hj hx1
        have HG0 := hide (getD_of hx0)
        have HG1 := hide (getD_of hx1)
        subst e
        cases e'
        clear hx0 hx1
        simp only [Nat.add_zero] at hcx0
        have hi0 : (0 : Int) < (n1 : Int) := by omega
        have hi0n : 0 < n1 := by omega
        have hi1 : (1 : Int) < (n1 : Int) := by omega
        obtain ⟨u, v, hu, hv, hun, hvn⟩ := won_mem (xs := xs) hp hq
        have HUV := hide (And.intro hu hv)
        have HN := hide (show (stS xs (upto n) (j + 1)).r = (stS xs (upto n) j).r.drop 2 ++ [(u : Int)] ∧ (stS xs (upto n) (j + 1)).g = (stS xs (upto n) j).g ++ [[(u : Int), (v : Int)]] from ⟨by simp only [stS, HG0.out, HG1.out, hu], by simp only [stS, meetG, HG0.out, HG1.out, hu, hv]⟩)
        have KS := hide (show ∀ w', Ext wr w' → (Ext wr w' ∧ w'.cell? ⟨w.heap.size, 0, none⟩ = some (.int .i64 (n : Int)) ∧ w'.cell? ⟨w.heap.size, 1, none⟩ = some (.slice A n c) ∧ w'.cell? ⟨b, o, none⟩ = some (.int .i64 (p : Int)) ∧ w'.cell? ⟨b, o + 1, none⟩ = some (.int .i64 (q : Int))) from
          fun w' hh => ⟨hh, hh.get e0, hh.get e1, hh.get hcx0, hh.get hcx1⟩)
        clear hu hv e0 e1 hcx0 hcx1
        go_wp2
        go_region_held3 (fun w' => Ext wr w' ∧ w'.cell? ⟨w.heap.size, 0, none⟩ = some (.int .i64 (n : Int)) ∧ w'.cell? ⟨w.heap.size, 1, none⟩ = some (.slice A n c) ∧ w'.cell? ⟨b, o, none⟩ = some (.int .i64 (p : Int)) ∧ w'.cell? ⟨b, o + 1, none⟩ = some (.int .i64 (q : Int)))
          (first | exact KS.out _ (Ext.refl _) | exact KS.out _ (Ext.refl _).drew | exact KS.out _ ((Ext.refl _).drew.trans hEG))
          ((go_at_call 137; refine (play_uv _ _ _ _ xs p q u v _ HT.out (HI.out.ext (HE1.out.trans HER.out).drew) hp hq HUV.out.1 HUV.out.2).mono ?_; rintro e w3 ⟨G, g, rfl, hoG, hEG⟩))
        have HD3 := hide ((HD.out.ext (Ext.refl wr).drew).new5 hEG hoG)
        have HER3 := hide (HER.out.trans ((Ext.refl wr).drew.trans hEG))
        have hsz0 := HE2.out.size
        have hsz1 := HER3.out.size
        obtain ⟨bG, oG, y, eG, hbG, hbG2, hyG, wyG, hcG, _⟩ := hoG.get (k := 0) (by omega)
        subst eG
        cases hyG
        have AP := hide HD3.out.a15
        clear hoG hEG HD hcG
        have HDX := hide (HD3.out.ext (Ext.one w3 (.cells #[.slice (some ⟨bG, oG, none⟩) 2 g] 23)))
        have hXc : (w3.alloc (.cells #[.slice (some ⟨bG, oG, none⟩) 2 g] 23)).cell? ⟨w3.heap.size, 0, none⟩ = some (.slice (some ⟨bG, oG, none⟩) 2 g) := by simp
        have hj8 : j + 1 ≤ 1073741824 := by omega
        go_wp2_with ((at_builtin; refine push_game rfl (.tmp 23) (.tmp 25) rfl rfl HDX.out w3.heap.size rfl hXc hj8 ?_; intro B4 d4 w4 hd4 hx4 hz4))
        have HE4 := hide (hz4 w1 (HER3.out.alloc (.cells #[.slice (some ⟨bG, oG, none⟩) 2 g] 23)) (Nat.le_refl _))
        have HD4 := hide (hd4.tail1 (k := 2) (by omega))
        obtain ⟨b6, o6, y, e6, _, _, hy6, _, hcG, _⟩ := hx4.get (k := 0) (by omega)
        cases e6
        cases hy6
        simp only [Nat.add_zero] at hcG
        have htl := run_tail_int (some ⟨b, o, none⟩) n1 c1 2 (by omega) 2 rfl
        have hne : some bG ≠ (tailA (some ⟨b, o, none⟩) c1 2).map (·.block) := by rw [tailA_block]; exact fun e => AP.out b rfl e
        have hnl : n1 - 2 + 1 ≤ 8 := by omega
        clear hd4 hx4 hz4 HD3 HDX hXc
        generalize tailA (some ⟨b, o, none⟩) c1 2 = T at *
        go_wp2
        go_region_held3 (fun w' => w'.cell? ⟨bG, oG, none⟩ = some (.int .i64 (u : Int)))
          (first | exact hcG | exact (Ext.refl w4).drew.get hcG | exact ((Ext.refl w4).alloc _).drew.get hcG | exact ((Ext.refl w4).drew.alloc _).get hcG | exact hg5.cell (((Ext.refl w4).alloc _).drew.get hcG) hne)
          ((refine step_push_ints rfl (.tmp 28) (.tmp 32) rfl rfl (HD4.out.f.ext (((Ext.refl w4).alloc _).drew)) (some ⟨_, 0, none⟩) 1 1 [(u : Int)] rfl ((ints_lit1 w4 (base := 0) (u : Int) ⟨by omega, by omega⟩ (Nat.zero_le _)).ints.ext (Ext.refl _).drew) (by omega) (by have := HD4.out.hb; simp; omega) ?_; intro B5 d5 w5 hb5 hg5 hat5))
        have HD5 := hide ((HD4.out.ext (((Ext.refl w4).alloc (.cells #[.int .i64 (u : Int)] 3)).drew)).push1 hb5 hg5 hat5)
        have HE5 := hide ((HE4.out.trans (((Ext.refl w4).alloc (.cells #[.int .i64 (u : Int)] 3)).drew)).grown hg5 (fun k hk => (HD4.out.f.block k hk).1))
        clear hb5 hg5 hat5 hne hcG htl
        rw [← HN.out.1, ← HN.out.2] at HD5
        go_wp2
        go_roundw
        case rel => exact ⟨j + 1, n1 - 2 + 1, d5, d4, B5, B4, by omega, by omega, rfl, rfl, HD5.out.nil5, HE5.out⟩
        case measure => (simp <;> omega)
      · have hke : j = n - 1 := by omega
        subst hke
        have HG := hide HD.out.rows
        clear HD
        have hl := HG.out.len
        go_wp2
        go_ret
        rw [HV.out]
        exact RetG.mk rfl (HG.out.mono (by have := HE1.out.size; omega) (Nat.le_refl _)) (HE1.out.trans HER.out)
  · have HV := hide (show singleOf s xs = [] by unfold singleOf; rw [if_neg ht])
    have HT := hide ht
    clear ht h
    go_enter Try.func70, Try.ntmps70
    go_wp2_with fail
    refine (iTourOk_any _ _ _ _ xs _ (HI.out.ext (Ext.one _ _))).mono ?_
    rw [decide_eq_false HT.out]
    rintro e w1 ⟨rfl, hE1⟩
    go_wp2
    go_ret
    rw [HV.out]
    exact RetG.mk rfl (OwG.nil _ _ _) ((Ext.one _ _).trans hE1)

end Go.Proofs.Ytbaljgdepicigaa
