/-
  Contracts of double elimination: the program's games and places.
-/
import Derived.Laws.ShiftsVar
import Derived.Deep.RegionLaw
import Derived.Deep.RegionHeld3
import Derived.Test.YtbaljgdepicigaaBase
import Derived.Test.YtbaljgdepicigaaMathA
import Derived.Test.YtbaljgdepicigaaMathD
import Derived.Test.YtbaljgdepicigaaLib
import Derived.Test.YtbaljgdepicigaaAid
import Derived.Test.YtbaljgdepicigaaStep
import Derived.Test.YtbaljgdepicigaaGrid
import Derived.Test.YtbaljgdepicigaaLibF
import Derived.Test.YtbaljgdepicigaaMathB
import Derived.Test.YtbaljgdepicigaaMathU
import Derived.Test.YtbaljgdepicigaaMathW
import Derived.Test.YtbaljgdepicigaaMathZ
import Derived.Test.YtbaljgdepicigaaMathY
import Derived.Test.YtbaljgdepicigaaPop
import Derived.Test.YtbaljgdepicigaaMathG
import Derived.Test.YtbaljgdepicigaaMathX
import Derived.Test.YtbaljgdepicigaaDblA
import Derived.Test.YtbaljgdepicigaaSeed
import Derived.Test.YtbaljgdepicigaaTour
import Derived.Test.YtbaljgdepicigaaTourB
import Derived.Test.YtbaljgdepicigaaDblB
import Derived.Test.YtbaljgdepicigaaDblD
import Derived.Test.YtbaljgdepicigaaDblC
namespace Go.Proofs.Ytbaljgdepicigaa
open Go.RowKit
set_option linter.unusedVariables false

-- words of the end
theorem grid3 {w : World} {A1 A2 A3 : Option Addr} {n1 c1 n2 c2 n3 c3 : Nat} {xs ys zs : List Int} (h1 : Ints w A1 n1 c1 xs) (h2 : Ints w A2 n2 c2 ys) (h3 : Ints w A3 n3 c3 zs) :
    Grid (w.alloc (.cells #[.slice A1 n1 c1, .slice A2 n2 c2, .slice A3 n3 c3] 23)) (some ⟨w.heap.size, 0, none⟩) 3 3 [xs, ys, zs] := by
  have hE := Ext.one w (.cells #[.slice A1 n1 c1, .slice A2 n2 c2, .slice A3 n3 c3] 23)
  refine ⟨[(A1, n1, c1), (A2, n2, c2), (A3, n3, c3)], ⟨rfl, Nat.le_refl _, by omega, fun _ => ⟨w.heap.size, 0, rfl, by simp, fun k v hv => ?_⟩⟩, rfl, fun i x r hx hr => ?_⟩
  · match k with
    | 0 => simp [sv] at hv; subst hv; simp
    | 1 => simp [sv] at hv; subst hv; simp
    | 2 => simp [sv] at hv; subst hv; simp
    | k + 3 => simp at hv
  · match i with
    | 0 => simp at hx hr; subst hx hr; exact h1.ext hE
    | 1 => simp at hx hr; subst hx hr; exact h2.ext hE
    | 2 => simp at hx hr; subst hx hr; exact h3.ext hE
    | i + 3 => simp at hx
/-- Rows and places come back. -/
def RetDb (w : World) (g : List (List Int)) (p : List Int) (e : Ending) (w' : World) : Prop := ∃ A c B d, e = .returned (.tuple #[.slice A g.length c, .slice B p.length d]) ∧ OwG w' w.heap.size w'.heap.size A g.length c g ∧ OwI w' w.heap.size B p.length d p ∧ Ext w w'
theorem RetDb.mk {w w' : World} {g : List (List Int)} {p : List Int} {e : Ending} {A B : Option Addr} {n c m d : Nat} (he : e = .returned (.tuple #[.slice A n c, .slice B m d])) (hg : OwG w' w.heap.size w'.heap.size A n c g) (hp : OwI w' w.heap.size B m d p) (hE : Ext w w') : RetDb w g p e w' := by
  have h1 := hg.len
  have h2 := hp.len
  subst h1 h2
  exact ⟨A, c, B, d, he, hg, hp, hE⟩
-- (impl.Tour).double
set_option maxHeartbeats 40000000 in
set_option maxRecDepth 100000 in
theorem double_any (s : Int) (A : Option Addr) (n c : Nat) (xs : List Int) (Ao : Option Addr) (no co : Nat) (o : List Int) (w : World) (ht : tourOk s xs) (h : Ints w A n c xs) (ho : Ints w Ao no co o) (hob : ∀ x ∈ o, ∃ p : Nat, x = (p : Int) ∧ p < n) (hol : o.length ≤ 8) (hnd : o.Nodup) :
    Calls Try.prog 132 #[.agg #[.int .i64 s, .slice A n c], .slice Ao no co] w (RetDb w (doubleG xs o) (placesD xs o)) := by
  have HI := hide h
  have hz := tourOk_size ht
  rw [h.len] at hz
  obtain ⟨hn1, hn8, rfl⟩ := hz
  have HT := hide ht
  have HOB := hide hob
  have HND := hide hnd
  have hno := ho.len
  have hno8 : no ≤ 8 := by omega
  have HOI := hide ho
  have HOL := hide hol
  clear ht h ho hob hol hnd
  go_enter Try.func132, Try.ntmps132
  go_wp2_with fail
  obtain ⟨W, hW⟩ : ∃ W : World, W = w.alloc (.cells #[.int .i64 (n : Int), .slice A n c] 33) := ⟨_, rfl⟩
  have HE1 := hide (show Ext w W by rw [hW]; exact Ext.one _ _)
  have C0 := hide (show W.cell? ⟨w.heap.size, 0, none⟩ = some (.int .i64 (n : Int)) by rw [hW]; simp)
  have C1 := hide (show W.cell? ⟨w.heap.size, 1, none⟩ = some (.slice A n c) by rw [hW]; simp)
  rw [← hW]
  clear hW
  refine (Clone_any Ao no co o _ (HOI.out.ext HE1.out) (by omega)).mono ?_
  rintro e w2 ⟨B, d, rfl, hoB, hE2⟩
  rw [hno] at hoB ⊢
  have HD0 := hide (DbI.start_nil hE2.size hoB)
  have HE2 := hide hE2
  clear hoB hE2
  go_wp2
  go_loopw [6, 7, 8, 9] (fun a b q r wr => ∃ (j n1 c1 n2 c2 n3 c3 c4 : Nat) (A1 A2 A3 A4 : Option Addr), (∀ i, i < j → goOn (stD xs o i)) ∧ a = .slice A1 n1 c1 ∧ b = .slice A2 n2 c2 ∧ q = .slice A3 n3 c3 ∧ r = .slice A4 j c4 ∧ Hid (DbI wr W.heap.size A1 A2 A3 A4 none n1 c1 n2 c2 n3 c3 j c4 0 0 (stD xs o j).f (stD xs o j).s (stD xs o j).p [] (stD xs o j).g) ∧ Ext W wr) (fun a b _ _ _ => 2 * lenV a + lenV b)
  case atStart => exact ⟨0, no, d, 0, 0, 0, 0, 0, B, none, none, none, (fun i hi => absurd hi (Nat.not_lt_zero _)), rfl, rfl, rfl, rfl, HD0, HE2.out⟩
  case round =>
    obtain ⟨j, n1, c1, n2, c2, n3, c3, c4, A1, A2, A3, A4, hj, rfl, rfl, rfl, rfl, HD, hE⟩ := hrel
    have HER := hide hE
    have HJ := hide hj
    have e0' := hE.get C0.out
    have e1' := hE.get C1.out
    clear hE hj
    have hc1 := HD.out.f.le
    have hc2 := HD.out.f.max
    have hd1 := HD.out.s.le
    have hd2 := HD.out.s.max
    have HL1 := hide HD.out.f.len
    have HL2 := hide HD.out.s.len
    have hjn : j ≤ 16 ∧ 2 * n1 + n2 ≤ 16 := by
      have h1 := st_weight xs o HJ.out
      unfold weight at h1
      rw [HL1.out, HL2.out] at h1
      omega
    have hmem := stD_mem HOB.out HJ.out
    have hn3 : n1 + n2 + n3 ≤ 8 := by
      have h1 := (perm_st xs o HJ.out).length_eq
      unfold allD at h1
      rw [List.length_append, List.length_append, HL1.out, HL2.out, HD.out.p.len] at h1
      omega
    by_cases hgo : 1 < n1 + n2
    · have HGO := hide (show goOn (stD xs o j) by unfold goOn; rw [HL1.out, HL2.out]; exact hgo)
      have HJ1 := hide (stD_go HJ.out HGO.out)
      have hadd : (1 : Int) < (n1 : Int) + (n2 : Int) := by omega
      have hj1 : j + 1 ≤ 1073741824 := by omega
      by_cases h2 : 2 ≤ n1
      · have HF2 := hide (show 2 ≤ (stD xs o j).f.length by rw [HL1.out]; exact h2)
        have hi0n : 0 < n1 := by omega
        have hi1n : 1 < n1 := by omega
        have hi0 : (0 : Int) < (n1 : Int) := by omega
        have hi1 : (1 : Int) < (n1 : Int) := by omega
        have h2i : (2 : Int) ≤ (n1 : Int) := by omega
        obtain ⟨b0, o0, x0, e0, hb0, hl0, hx0, _, hc0', _⟩ := HD.out.f.get (k := 0) (by omega)
        obtain ⟨p, rfl, hp⟩ := hmem x0 (.inl (List.mem_of_getElem? hx0))
        obtain ⟨b1, o1, x1, e1, hb1, hl1, hx1, _, hc1', _⟩ := HD.out.f.get (k := 1) (by omega)
        obtain ⟨q, rfl, hq⟩ := hmem x1 (.inl (List.mem_of_getElem? hx1))
        subst e0
        cases e1
        obtain ⟨u, v, hu, hv, hun, hvn⟩ := won_mem (xs := xs) hp hq
        have HUV := hide (And.intro hu hv)
        have HN := hide (stD_a HF2.out hx0 hx1 hu hv)
        clear hx0 hx1 hmem
        simp only [Nat.add_zero] at hc0'
        have KS := hide (show ∀ w', Ext wr w' → (Ext wr w' ∧ w'.cell? ⟨w.heap.size, 0, none⟩ = some (.int .i64 (n : Int)) ∧ w'.cell? ⟨w.heap.size, 1, none⟩ = some (.slice A n c) ∧ w'.cell? ⟨b0, o0, none⟩ = some (.int .i64 (p : Int)) ∧ w'.cell? ⟨b0, o0 + 1, none⟩ = some (.int .i64 (q : Int))) from
          fun w' hh => ⟨hh, hh.get e0', hh.get e1', hh.get hc0', hh.get hc1'⟩)
        clear hu hv e0' e1' hc0' hc1'
        go_wp2
        go_region_held3 (fun w' => Ext wr w' ∧ w'.cell? ⟨w.heap.size, 0, none⟩ = some (.int .i64 (n : Int)) ∧ w'.cell? ⟨w.heap.size, 1, none⟩ = some (.slice A n c) ∧ w'.cell? ⟨b0, o0, none⟩ = some (.int .i64 (p : Int)) ∧ w'.cell? ⟨b0, o0 + 1, none⟩ = some (.int .i64 (q : Int)))
          (first | exact KS.out _ (Ext.refl _) | exact KS.out _ (Ext.refl _).drew | exact KS.out _ ((Ext.refl _).drew.trans hEG))
          ((go_at_call 137; refine (play_uv _ _ _ _ xs p q u v _ HT.out (HI.out.ext (HE1.out.trans HER.out).drew) hp hq HUV.out.1 HUV.out.2).mono ?_; rintro e w3 ⟨G, g, rfl, hoG, hEG⟩))
        have HD3 := hide (((HD.out.ext (Ext.refl wr).drew).new5 hEG hoG))
        have HER3 := hide (HER.out.trans ((Ext.refl wr).drew.trans hEG))
        obtain ⟨bG, oG, y, eG, hbG, hbG2, hyG, wyG, hcG, _⟩ := hoG.get (k := 0) (by omega)
        subst eG
        cases hyG
        simp only [Nat.add_zero] at hcG
        have AP := hide HD3.out.a15
        have htl := run_tail_int (some ⟨b0, o0, none⟩) n1 c1 2 (by omega) 2 rfl
        have hne : some bG ≠ (tailA (some ⟨b0, o0, none⟩) c1 2).map (·.block) := by rw [tailA_block]; exact fun e => AP.out b0 rfl e
        have hnl : n1 - 2 + 1 ≤ 16 := by omega
        have HD3t := hide (HD3.out.tail1 (k := 2) (by omega))
        clear hoG hEG HD HD3
        generalize tailA (some ⟨b0, o0, none⟩) c1 2 = T at *
        go_wp2
        go_region_held3 (fun w' => w'.cell? ⟨bG, oG, none⟩ = some (.int .i64 (u : Int)))
          (first | exact hcG | exact (Ext.refl w3).drew.get hcG | exact ((Ext.refl w3).alloc _).drew.get hcG | exact ((Ext.refl w3).drew.alloc _).get hcG | exact hg5.cell (((Ext.refl w3).alloc _).drew.get hcG) hne)
          ((refine step_push_ints rfl (.tmp 60) (.tmp 64) rfl rfl (HD3t.out.f.ext (((Ext.refl w3).alloc _).drew)) (some ⟨_, 0, none⟩) 1 1 [(u : Int)] rfl ((ints_lit1 w3 (base := 0) (u : Int) ⟨by omega, by omega⟩ (Nat.zero_le _)).ints.ext (Ext.refl _).drew) (by omega) (by have := HD3t.out.hb; simp; omega) ?_; intro B5 d5 w5 hb5 hg5 hat5))
        have HD5 := hide ((HD3t.out.ext (((Ext.refl w3).alloc (.cells #[.int .i64 (u : Int)] 3)).drew)).push1 hb5 hg5 hat5)
        have HE5 := hide ((HER3.out.trans (((Ext.refl w3).alloc (.cells #[.int .i64 (u : Int)] 3)).drew)).grown hg5 (fun k hk => (HD3t.out.f.block k hk).1))
        obtain ⟨b6, o6, y6, e6, _, _, hy6, _, hc6, _⟩ := HD5.out.x.get (k := 1) (by omega)
        cases e6
        cases hy6
        clear hb5 hg5 hat5 hne hcG htl
        go_wp2_with (first
          | (at_builtin; refine push_ints (base := W.heap.size) rfl (.tmp 66) (.tmp 70) rfl rfl (HD5.out.s.ext (Ext.one _ _)) (some ⟨_, 0, none⟩) 1 1 [(v : Int)] rfl (ints_lit1 _ (base := 0) (v : Int) ⟨by omega, by omega⟩ (Nat.zero_le _)).ints (by omega) (by have := HD5.out.hb; simp; omega) ?_; intro B7 d7 w7 hb7 hg7 hat7; have HD8 := hide (((HD5.out.ext (Ext.one w5 (.cells #[.int .i64 (v : Int)] 3))).push2 hb7 hg7 hat7).ext (Ext.one w7 (.cells #[.slice (some ⟨bG, oG, none⟩) 2 g] 23))); have HE7 := hide ((HE5.out.alloc (.cells #[.int .i64 (v : Int)] 3)).grown hg7 (fun k hk => (HD5.out.s.block k hk).1)))
          | (at_builtin; refine push_game rfl (.tmp 97) (.tmp 99) rfl rfl HD8.out w7.heap.size rfl (by simp) hj1 ?_; intro B4 d4 w4 hd4 hx4 hz4))
        have HE4 := hide (hz4 W (HE7.out.alloc (.cells #[.slice (some ⟨bG, oG, none⟩) 2 g] 23)) (Nat.le_refl _))
        have HD4 := hide hd4
        clear hd4 hx4 hz4
        go_roundw
        case rel => exact ⟨j + 1, n1 - 2 + 1, d5, n2 + 1, d7, n3, c3, d4, B5, B7, A3, B4, HJ1.out, rfl, rfl, rfl, rfl, hide (by rw [HN.out.1, HN.out.2.1, HN.out.2.2.1, HN.out.2.2.2]; exact HD4.out), HE4.out⟩
        case measure => (simp [lenV] <;> omega)
      · have HF2 := hide (show ¬ 2 ≤ (stD xs o j).f.length by rw [HL1.out]; exact h2)
        have h2i : ¬ (2 : Int) ≤ (n1 : Int) := by omega
        by_cases h3 : 2 ≤ n2
        · have HS2 := hide (show 2 ≤ (stD xs o j).s.length by rw [HL2.out]; exact h3)
          have hi0n : 0 < n2 := by omega
          have hi1n : 1 < n2 := by omega
          have hi0 : (0 : Int) < (n2 : Int) := by omega
          have hi1 : (1 : Int) < (n2 : Int) := by omega
          have h3i : (2 : Int) ≤ (n2 : Int) := by omega
          obtain ⟨b0, o0, x0, e0, hb0, hl0, hx0, _, hc0', _⟩ := HD.out.s.get (k := 0) (by omega)
          obtain ⟨p, rfl, hp⟩ := hmem x0 (.inr (List.mem_of_getElem? hx0))
          obtain ⟨b1, o1, x1, e1, hb1, hl1, hx1, _, hc1', _⟩ := HD.out.s.get (k := 1) (by omega)
          obtain ⟨q, rfl, hq⟩ := hmem x1 (.inr (List.mem_of_getElem? hx1))
          subst e0
          cases e1
          obtain ⟨u, v, hu, hv, hun, hvn⟩ := won_mem (xs := xs) hp hq
          have HUV := hide (And.intro hu hv)
          have HN := hide (stD_b HF2.out HS2.out hx0 hx1 hu hv)
          clear hx0 hx1 hmem
          simp only [Nat.add_zero] at hc0'
          have KS := hide (show ∀ w', Ext wr w' → (Ext wr w' ∧ w'.cell? ⟨w.heap.size, 0, none⟩ = some (.int .i64 (n : Int)) ∧ w'.cell? ⟨w.heap.size, 1, none⟩ = some (.slice A n c) ∧ w'.cell? ⟨b0, o0, none⟩ = some (.int .i64 (p : Int)) ∧ w'.cell? ⟨b0, o0 + 1, none⟩ = some (.int .i64 (q : Int))) from
            fun w' hh => ⟨hh, hh.get e0', hh.get e1', hh.get hc0', hh.get hc1'⟩)
          clear hu hv e0' e1' hc0' hc1'
          go_wp2
          go_region_held3 (fun w' => Ext wr w' ∧ w'.cell? ⟨w.heap.size, 0, none⟩ = some (.int .i64 (n : Int)) ∧ w'.cell? ⟨w.heap.size, 1, none⟩ = some (.slice A n c) ∧ w'.cell? ⟨b0, o0, none⟩ = some (.int .i64 (p : Int)) ∧ w'.cell? ⟨b0, o0 + 1, none⟩ = some (.int .i64 (q : Int)))
            (first | exact KS.out _ (Ext.refl _) | exact KS.out _ (Ext.refl _).drew | exact KS.out _ ((Ext.refl _).drew.trans hEG))
            ((go_at_call 137; refine (play_uv _ _ _ _ xs p q u v _ HT.out (HI.out.ext (HE1.out.trans HER.out).drew) hp hq HUV.out.1 HUV.out.2).mono ?_; rintro e w3 ⟨G, g, rfl, hoG, hEG⟩))
          have HD3 := hide (((HD.out.ext (Ext.refl wr).drew).new5 hEG hoG))
          have HER3 := hide (HER.out.trans ((Ext.refl wr).drew.trans hEG))
          obtain ⟨bG, oG, y, eG, hbG, hbG2, hyG, wyG, hcG, _⟩ := hoG.get (k := 0) (by omega)
          subst eG
          cases hyG
          simp only [Nat.add_zero] at hcG
          have AP := hide HD3.out.a25
          have htl := run_tail_int (some ⟨b0, o0, none⟩) n2 c2 2 (by omega) 2 rfl
          have hne : some bG ≠ (tailA (some ⟨b0, o0, none⟩) c2 2).map (·.block) := by rw [tailA_block]; exact fun e => AP.out b0 rfl e
          have hnl : n2 - 2 + 1 ≤ 16 := by omega
          have HD3t := hide (HD3.out.tail2 (k := 2) (by omega))
          clear hoG hEG HD HD3
          generalize tailA (some ⟨b0, o0, none⟩) c2 2 = T at *
          go_wp2
          go_region_held3 (fun w' => w'.cell? ⟨bG, oG, none⟩ = some (.int .i64 (u : Int)))
            (first | exact hcG | exact (Ext.refl w3).drew.get hcG | exact ((Ext.refl w3).alloc _).drew.get hcG | exact ((Ext.refl w3).drew.alloc _).get hcG | exact hg5.cell (((Ext.refl w3).alloc _).drew.get hcG) hne)
            ((refine step_push_ints rfl (.tmp 85) (.tmp 89) rfl rfl (HD3t.out.s.ext (((Ext.refl w3).alloc _).drew)) (some ⟨_, 0, none⟩) 1 1 [(u : Int)] rfl ((ints_lit1 w3 (base := 0) (u : Int) ⟨by omega, by omega⟩ (Nat.zero_le _)).ints.ext (Ext.refl _).drew) (by omega) (by have := HD3t.out.hb; simp; omega) ?_; intro B5 d5 w5 hb5 hg5 hat5))
          have HD5 := hide ((HD3t.out.ext (((Ext.refl w3).alloc (.cells #[.int .i64 (u : Int)] 3)).drew)).push2 hb5 hg5 hat5)
          have HE5 := hide ((HER3.out.trans (((Ext.refl w3).alloc (.cells #[.int .i64 (u : Int)] 3)).drew)).grown hg5 (fun k hk => (HD3t.out.s.block k hk).1))
          obtain ⟨b6, o6, y6, e6, _, _, hy6, _, hc6, _⟩ := HD5.out.x.get (k := 1) (by omega)
          cases e6
          cases hy6
          clear hb5 hg5 hat5 hne hcG htl
          go_wp2_with (first
            | (at_builtin; refine push_ints (base := W.heap.size) rfl (.tmp 91) (.tmp 95) rfl rfl (HD5.out.p.ext (Ext.one _ _)) (some ⟨_, 0, none⟩) 1 1 [(v : Int)] rfl (ints_lit1 _ (base := 0) (v : Int) ⟨by omega, by omega⟩ (Nat.zero_le _)).ints (by omega) (by have := HD5.out.hb; simp; omega) ?_; intro B7 d7 w7 hb7 hg7 hat7; have HD8 := hide (((HD5.out.ext (Ext.one w5 (.cells #[.int .i64 (v : Int)] 3))).push3 hb7 hg7 hat7).ext (Ext.one w7 (.cells #[.slice (some ⟨bG, oG, none⟩) 2 g] 23))); have HE7 := hide ((HE5.out.alloc (.cells #[.int .i64 (v : Int)] 3)).grown hg7 (fun k hk => (HD5.out.p.block k hk).1)))
            | (at_builtin; refine push_game rfl (.tmp 97) (.tmp 99) rfl rfl HD8.out w7.heap.size rfl (by simp) hj1 ?_; intro B4 d4 w4 hd4 hx4 hz4))
          have HE4 := hide (hz4 W (HE7.out.alloc (.cells #[.slice (some ⟨bG, oG, none⟩) 2 g] 23)) (Nat.le_refl _))
          have HD4 := hide hd4
          clear hd4 hx4 hz4
          go_roundw
          case rel => exact ⟨j + 1, n1, c1, n2 - 2 + 1, d5, n3 + 1, d7, d4, A1, B5, B7, B4, HJ1.out, rfl, rfl, rfl, rfl, hide (by rw [HN.out.1, HN.out.2.1, HN.out.2.2.1, HN.out.2.2.2]; exact HD4.out), HE4.out⟩
          case measure => (simp [lenV] <;> omega)
        · have HS2 := hide (show ¬ 2 ≤ (stD xs o j).s.length by rw [HL2.out]; exact h3)
          have h3i : ¬ (2 : Int) ≤ (n2 : Int) := by omega
          have hi0n : 0 < n1 := by omega
          have hi1n : 0 < n2 := by omega
          have hi0 : (0 : Int) < (n1 : Int) := by omega
          have hi1 : (0 : Int) < (n2 : Int) := by omega
          obtain ⟨b0, o0, x0, e0, hb0, hl0, hx0, _, hc0', _⟩ := HD.out.f.get (k := 0) (by omega)
          obtain ⟨p, rfl, hp⟩ := hmem x0 (.inl (List.mem_of_getElem? hx0))
          obtain ⟨b1, o1, x1, e1, hb1, hl1, hx1, _, hc1', _⟩ := HD.out.s.get (k := 0) (by omega)
          obtain ⟨q, rfl, hq⟩ := hmem x1 (.inr (List.mem_of_getElem? hx1))
          subst e0 e1
          obtain ⟨u, v, hu, hv, hun, hvn⟩ := won_mem (xs := xs) hp hq
          have HUV := hide (And.intro hu hv)
          have HN := hide (stD_c HF2.out HS2.out hx0 hx1 hu hv (stD_ne HND.out HJ.out (List.mem_of_getElem? hx0) (List.mem_of_getElem? hx1)))
          have HX0 := hide hx0
          have HX1 := hide hx1
          clear hx0 hx1 hmem
          simp only [Nat.add_zero] at hc0' hc1'
          have KS := hide (show ∀ w', Ext wr w' → (Ext wr w' ∧ w'.cell? ⟨w.heap.size, 0, none⟩ = some (.int .i64 (n : Int)) ∧ w'.cell? ⟨w.heap.size, 1, none⟩ = some (.slice A n c) ∧ w'.cell? ⟨b0, o0, none⟩ = some (.int .i64 (p : Int)) ∧ w'.cell? ⟨b1, o1, none⟩ = some (.int .i64 (q : Int))) from
            fun w' hh => ⟨hh, hh.get e0', hh.get e1', hh.get hc0', hh.get hc1'⟩)
          clear hu hv e0' e1' hc0' hc1'
          go_wp2
          go_region_held3 (fun w' => Ext wr w' ∧ w'.cell? ⟨w.heap.size, 0, none⟩ = some (.int .i64 (n : Int)) ∧ w'.cell? ⟨w.heap.size, 1, none⟩ = some (.slice A n c) ∧ w'.cell? ⟨b0, o0, none⟩ = some (.int .i64 (p : Int)) ∧ w'.cell? ⟨b1, o1, none⟩ = some (.int .i64 (q : Int)))
            (first | exact KS.out _ (Ext.refl _) | exact KS.out _ (Ext.refl _).drew | exact KS.out _ ((Ext.refl _).drew.trans hEG))
            ((go_at_call 137; refine (play_uv _ _ _ _ xs p q u v _ HT.out (HI.out.ext (HE1.out.trans HER.out).drew) hp hq HUV.out.1 HUV.out.2).mono ?_; rintro e w3 ⟨G, g, rfl, hoG, hEG⟩))
          have HD3 := hide (((HD.out.ext (Ext.refl wr).drew).new5 hEG hoG))
          have HER3 := hide (HER.out.trans ((Ext.refl wr).drew.trans hEG))
          obtain ⟨bG, oG, y, eG, hbG, hbG2, hyG, wyG, hcG, _⟩ := hoG.get (k := 0) (by omega)
          subst eG
          cases hyG
          simp only [Nat.add_zero] at hcG
          obtain ⟨b6, o6, y6, e6, _, _, hy6, _, hc6, _⟩ := HD3.out.x.get (k := 1) (by omega)
          cases e6
          cases hy6
          obtain ⟨b8, o8, x8, e8, _, _, hx8, _, hc8, _⟩ := HD3.out.f.get (k := 0) (by omega)
          cases e8
          obtain rfl : x8 = (p : Int) := (by have h9 := HX0.out; rw [hx8] at h9; simpa using h9)
          obtain ⟨b9, o9, x9, e9, _, _, hx9, _, hc9, _⟩ := HD3.out.s.get (k := 0) (by omega)
          cases e9
          obtain rfl : x9 = (q : Int) := (by have h9 := HX1.out; rw [hx9] at h9; simpa using h9)
          simp only [Nat.add_zero] at hc8 hc9
          clear hoG hEG HD hx8 hx9
          by_cases hup : (u : Int) = (p : Int)
          · have hbe : ((u : Int) == (p : Int)) = true := by simpa using hup
            have HN2 := hide (HN.out.2.1 hup)
            clear hup
            go_wp2
            go_quiet (fail)
            first | rw [hbe] | skip
            have HD3q := hide (HD3.out.ext ((Ext.refl w3).drewN nq))
            have HERq := hide (HER3.out.trans ((Ext.refl w3).drewN nq))
            have hc6q := ((Ext.refl w3).drewN nq).get hc6
            clear hc6 hcG hc8 hc9 HD3 HER3
            generalize w3.drewN nq = w5 at *
            go_wp2_with (first
              | (at_builtin; refine push_ints (base := W.heap.size) rfl (.tmp 34) (.tmp 38) rfl rfl (HD3q.out.p.ext (Ext.one _ _)) (some ⟨_, 0, none⟩) 1 1 [(v : Int)] rfl (ints_lit1 _ (base := 0) (v : Int) ⟨by omega, by omega⟩ (Nat.zero_le _)).ints (by omega) (by have := HD3q.out.hb; simp; omega) ?_; intro B7 d7 w7 hb7 hg7 hat7; have HD8 := hide ((((HD3q.out.ext (Ext.one w5 (.cells #[.int .i64 (v : Int)] 3))).push3 hb7 hg7 hat7).nil2).ext (Ext.one w7 (.cells #[.slice (some ⟨bG, oG, none⟩) 2 g] 23))); have HE7 := hide ((HERq.out.alloc (.cells #[.int .i64 (v : Int)] 3)).grown hg7 (fun k hk => (HD3q.out.p.block k hk).1)))
              | (at_builtin; refine push_game rfl (.tmp 97) (.tmp 99) rfl rfl HD8.out w7.heap.size rfl (by simp) hj1 ?_; intro B4 d4 w4 hd4 hx4 hz4))
            have HE4 := hide (hz4 W (HE7.out.alloc (.cells #[.slice (some ⟨bG, oG, none⟩) 2 g] 23)) (Nat.le_refl _))
            have HD4 := hide hd4
            clear hd4 hx4 hz4
            go_roundw
            case rel => exact ⟨j + 1, n1, c1, 0, 0, n3 + 1, d7, d4, some ⟨b0, o0, none⟩, none, B7, B4, HJ1.out, rfl, rfl, rfl, rfl, hide (by rw [HN.out.1, HN2.out.1, HN2.out.2.1, HN2.out.2.2]; exact HD4.out), HE4.out⟩
            case measure => (simp [lenV] <;> omega)
          · have hbe : ((u : Int) == (p : Int)) = false := by simpa using hup
            have HN2 := hide (HN.out.2.2 hup)
            clear hup
            go_wp2
            go_quiet (fail)
            first | rw [hbe] | skip
            have HD3q := hide (HD3.out.ext ((Ext.refl w3).drewN nq))
            have HERq := hide (HER3.out.trans ((Ext.refl w3).drewN nq))
            have hc8q := ((Ext.refl w3).drewN nq).get hc8
            have hc9q := ((Ext.refl w3).drewN nq).get hc9
            clear hc6 hcG hc8 hc9 HD3 HER3
            generalize w3.drewN nq = w5 at *
            go_wp2
            go_region
            have HD8 := hide ((((HD3q.out.new2 (Ext.one w5 (.cells #[.int .i64 (p : Int), .int .i64 (q : Int)] 3)) (ints_lit2 w5 (base := w5.heap.size) (p : Int) (q : Int) ⟨by omega, by omega⟩ ⟨by omega, by omega⟩ (Nat.le_refl _))).nil1).ext (Ext.refl _).drew).ext (Ext.one _ (.cells #[.slice (some ⟨bG, oG, none⟩) 2 g] 23)))
            go_wp2_with (at_builtin; go_loud (refine push_game rfl (.tmp 97) (.tmp 99) rfl rfl HD8.out (w5.heap.size + 1) rfl (by simp) hj1 ?_); intro B4 d4 w4 hd4 hx4 hz4)
            have HE4 := hide (hz4 W (((HERq.out.alloc (.cells #[.int .i64 (p : Int), .int .i64 (q : Int)] 3)).drew).alloc (.cells #[.slice (some ⟨bG, oG, none⟩) 2 g] 23)) (Nat.le_refl _))
            have HD4 := hide hd4
            have HVP := hide HN2.out.2.2.2.1
            have HUQ := hide HN2.out.2.2.2.2
            clear hd4 hx4 hz4
            go_roundw
            case rel => exact ⟨j + 1, 0, 0, 2, 2, n3, c3, d4, none, some ⟨w5.heap.size, 0, none⟩, A3, B4, HJ1.out, rfl, rfl, rfl, rfl, hide (by rw [HN.out.1, HN2.out.1, HN2.out.2.1, HN2.out.2.2.1]; have h9 := HD4.out; rw [← HVP.out, ← HUQ.out] at h9; exact h9), HE4.out⟩
            case measure => (simp [lenV] <;> omega)
    · have hgi : ¬ (1 : Int) < (n1 : Int) + (n2 : Int) := by omega
      have HLE := hide (lenD_eq HJ.out (show ¬ goOn (stD xs o j) by unfold goOn; rw [HL1.out, HL2.out]; exact hgo))
      have HV := hide (show doubleG xs o = (stD xs o j).g by unfold doubleG endD; rw [HLE.out])
      have HPV := hide (show placesD xs o = [(stD xs o j).p, (stD xs o j).f, (stD xs o j).s].flatten.reverse by unfold placesD endD; rw [HLE.out]; simp)
      have HG := hide HD.out.rows
      have HGR := hide (grid3 HD.out.p.ints HD.out.f.ints HD.out.s.ints)
      have htot : tot [(stD xs o j).p, (stD xs o j).f, (stD xs o j).s] ≤ 65536 := by simp only [tot]; rw [HD.out.p.len, HD.out.f.len, HD.out.s.len]; omega
      obtain ⟨F, hF⟩ : ∃ F : List Int, F = [(stD xs o j).p, (stD xs o j).f, (stD xs o j).s].flatten := ⟨_, rfl⟩
      rw [← hF] at HPV
      have htl2 : F.length ≤ 65536 := by rw [hF, flat_len]; exact htot
      have HF := hide hF
      have HTOT := hide htot
      have HTL2 := hide htl2
      clear HD htot htl2 hmem hF
      have hl := HG.out.len
      generalize [(stD xs o j).p, (stD xs o j).f, (stD xs o j).s] = R at *
      go_wp2_with fail
      refine (Concat_eq _ _ _ R F _ HF.out HGR.out HTOT.out).mono ?_
      rintro e w5 ⟨B5, d5, rfl, hoB, hE5⟩
      have HOB := hide hoB
      clear hoB
      go_wp2_with fail
      refine (Reverse_any _ _ _ F _ HOB.out HTL2.out).mono ?_
      rintro e w6 ⟨rfl, hoR, hgR⟩
      have HOR := hide hoR
      have HGR2 := hide hgR
      clear hoR hgR
      go_wp2
      go_ret2
      rw [HV.out, HPV.out]
      have hE5' := (Ext.one wr _).trans hE5
      have hsz5 := hE5'.size
      have hsz6 := HGR2.out.size
      have hszW := HE1.out.size
      have hszr := HER.out.size
      exact RetDb.mk rfl (((HG.out.ext hE5').only (Only.of_grown (l := wr.heap.size) (u := w5.heap.size) HGR2.out (fun k hk => ⟨by have := (HOB.out.block k hk).1; simp at this; omega, (HOB.out.block k hk).2⟩)) (.inl (Nat.le_refl _))).mono (by omega) (by omega)) (HOR.out.mono (by simp; omega)) (((HE1.out.trans HER.out).trans hE5').grown HGR2.out (fun k hk => by have := (HOB.out.block k hk).1; simp at this; omega))

end Go.Proofs.Ytbaljgdepicigaa
