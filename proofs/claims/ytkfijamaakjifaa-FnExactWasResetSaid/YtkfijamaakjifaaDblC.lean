/-
  Contracts of double elimination: the reference's games.
-/
import Derived.Laws.ShiftsVar
import Derived.Deep.RegionLaw
import Derived.Deep.RegionHeld3
import Derived.Test.YtkfijamaakjifaaBase
import Derived.Test.YtkfijamaakjifaaMathA
import Derived.Test.YtkfijamaakjifaaMathD
import Derived.Test.YtkfijamaakjifaaLib
import Derived.Test.YtkfijamaakjifaaAid
import Derived.Test.YtkfijamaakjifaaStep
import Derived.Test.YtkfijamaakjifaaGrid
import Derived.Test.YtkfijamaakjifaaLibF
import Derived.Test.YtkfijamaakjifaaMathB
import Derived.Test.YtkfijamaakjifaaMathU
import Derived.Test.YtkfijamaakjifaaMathW
import Derived.Test.YtkfijamaakjifaaMathZ
import Derived.Test.YtkfijamaakjifaaMathY
import Derived.Test.YtkfijamaakjifaaPop
import Derived.Test.YtkfijamaakjifaaMathG
import Derived.Test.YtkfijamaakjifaaMathX
import Derived.Test.YtkfijamaakjifaaDblA
import Derived.Test.YtkfijamaakjifaaTour
import Derived.Test.YtkfijamaakjifaaTourB
import Derived.Test.YtkfijamaakjifaaDblB
namespace Go.Proofs.Ytkfijamaakjifaa
open Go.RowKit
set_option linter.unusedVariables false

-- words
/-- How long a slice is. -/
def lenV : Value → Nat
  | .slice _ k _ => k
  | _ => 0
theorem stD_mem {xs o : List Int} {n j : Nat} (hob : ∀ x ∈ o, ∃ p : Nat, x = (p : Int) ∧ p < n) (h : ∀ i, i < j → goOn (stD xs o i)) : ∀ x, (x ∈ (stD xs o j).f ∨ x ∈ (stD xs o j).s) → ∃ p : Nat, x = (p : Int) ∧ p < n := fun x hx =>
  allD_bound h (P := fun x => ∃ p : Nat, x = (p : Int) ∧ p < n) hob x (by unfold allD; rcases hx with hx | hx <;> simp [hx])
theorem stD_a {xs o : List Int} {j : Nat} {p q u v : Int} (hl : 2 ≤ (stD xs o j).f.length) (h0 : (stD xs o j).f[0]? = some p) (h1 : (stD xs o j).f[1]? = some q) (hu : won xs p q = u) (hv : lostG xs p q = v) :
    (stD xs o (j + 1)).f = (stD xs o j).f.drop 2 ++ [u] ∧ (stD xs o (j + 1)).s = (stD xs o j).s ++ [v] ∧ (stD xs o (j + 1)).p = (stD xs o j).p ∧ (stD xs o (j + 1)).g = (stD xs o j).g ++ [[u, v]] := by
  simp only [stD, stepD, if_pos hl, getD_of h0, getD_of h1, meetG, hu, hv]
  exact ⟨trivial, trivial, trivial, trivial⟩
theorem stD_b {xs o : List Int} {j : Nat} {p q u v : Int} (hf : ¬ 2 ≤ (stD xs o j).f.length) (hl : 2 ≤ (stD xs o j).s.length) (h0 : (stD xs o j).s[0]? = some p) (h1 : (stD xs o j).s[1]? = some q) (hu : won xs p q = u) (hv : lostG xs p q = v) :
    (stD xs o (j + 1)).f = (stD xs o j).f ∧ (stD xs o (j + 1)).s = (stD xs o j).s.drop 2 ++ [u] ∧ (stD xs o (j + 1)).p = (stD xs o j).p ++ [v] ∧ (stD xs o (j + 1)).g = (stD xs o j).g ++ [[u, v]] := by
  simp only [stD, stepD, if_neg hf, if_pos hl, getD_of h0, getD_of h1, meetG, hu, hv]
  exact ⟨trivial, trivial, trivial, trivial⟩
theorem stD_c {xs o : List Int} {j : Nat} {p q u v : Int} (hf : ¬ 2 ≤ (stD xs o j).f.length) (hl : ¬ 2 ≤ (stD xs o j).s.length) (h0 : (stD xs o j).f[0]? = some p) (h1 : (stD xs o j).s[0]? = some q) (hu : won xs p q = u) (hv : lostG xs p q = v) (hne : p ≠ q) :
    (stD xs o (j + 1)).g = (stD xs o j).g ++ [[u, v]] ∧ (u = p → (stD xs o (j + 1)).f = (stD xs o j).f ∧ (stD xs o (j + 1)).s = [] ∧ (stD xs o (j + 1)).p = (stD xs o j).p ++ [v]) ∧
    (u ≠ p → (stD xs o (j + 1)).f = [] ∧ (stD xs o (j + 1)).s = [v, u] ∧ (stD xs o (j + 1)).p = (stD xs o j).p ∧ v = p ∧ u = q) := by
  simp only [stD, stepD, if_neg hf, if_neg hl, getD_of h0, getD_of h1]
  unfold won at hu
  unfold lostG at hv
  by_cases hb : beatsI xs p q
  · rw [if_pos hb] at hu hv
    simp only [if_pos hb]
    subst hu hv
    exact ⟨by trivial, fun _ => ⟨by trivial, by trivial, by trivial⟩, fun h => absurd rfl h⟩
  · rw [if_neg hb] at hu hv
    simp only [if_neg hb]
    subst hu hv
    exact ⟨by trivial, fun h => absurd h.symm hne, fun _ => ⟨by trivial, by trivial, by trivial, by trivial, by trivial⟩⟩
theorem stD_ne {xs o : List Int} {j : Nat} {p q : Int} (ho : o.Nodup) (h : ∀ i, i < j → goOn (stD xs o i)) (h0 : p ∈ (stD xs o j).f) (h1 : q ∈ (stD xs o j).s) : p ≠ q := by
  have hn := (perm_st xs o h).nodup_iff.2 ho
  unfold allD at hn
  rw [List.nodup_append, List.nodup_append] at hn
  exact hn.1.2.2 p h0 q h1
theorem stD_go {xs o : List Int} {j : Nat} (h : ∀ i, i < j → goOn (stD xs o i)) (hj : goOn (stD xs o j)) : ∀ i, i < j + 1 → goOn (stD xs o i) := fun i hi => by
  by_cases e : i = j
  · rw [e]; exact hj
  · exact h i (by omega)
-- spec.l23Play
set_option maxHeartbeats 4000000 in
set_option maxRecDepth 100000 in
theorem l23Play_any (s : Int) (A : Option Addr) (n c : Nat) (xs : List Int) (Ao : Option Addr) (no co : Nat) (o : List Int) (w : World) (ht : tourOk s xs) (h : Ints w A n c xs) (ho : Ints w Ao no co o) (hob : ∀ x ∈ o, ∃ p : Nat, x = (p : Int) ∧ p < n) (hol : o.length ≤ 8) (hnd : o.Nodup) :
    Calls Try.prog 58 #[.agg #[.int .i64 s, .slice A n c], .slice Ao no co] w (RetG w (doubleG xs o)) := by
  have HI := hide h
  have hz := tourOk_size ht
  rw [h.len] at hz
  obtain ⟨hn1, hn8, rfl⟩ := hz
  have HT := hide ht
  have HOB := hide hob
  have HND := hide hnd
  have hno := ho.len
  have hno8 : no ≤ 8 := by omega
  have HOI := hide ho
  have HOL := hide hol
  clear ht h ho hob hol hnd
  have HL0 := hide (show OwI ((w.alloc (.cells #[.int .i64 (n : Int), .slice A n c] 28)).alloc (.cells #[] 3)) (w.heap.size + 1) (some ⟨w.heap.size + 1, 0, none⟩) 0 0 [] by
    have h2 := ints_lit0 (w.alloc (.cells #[.int .i64 (n : Int), .slice A n c] 28)) (base := w.heap.size + 1) (by simp)
    simpa using h2)
  go_enter Try.func58, Try.ntmps58
  go_wp2_with (at_builtin; refine push_ints rfl (.tmp 14) (.tmp 15) rfl rfl HL0.out Ao no co _ rfl ((HOI.out.ext (Ext.one _ _)).ext (Ext.one _ _)) (by omega) (by simp) ?_; intro B d w2 hb2 hg2 hat2; rw [Nat.zero_add, List.nil_append] at hb2)
  obtain ⟨W, hW⟩ : ∃ W : World, W = w.alloc (.cells #[.int .i64 (n : Int), .slice A n c] 28) := ⟨_, rfl⟩
  have hWs : w.heap.size + 1 = W.heap.size := by rw [hW]; simp
  have HE1 := hide (show Ext w W by rw [hW]; exact Ext.one _ _)
  have B0 := hide (show W.cell? ⟨w.heap.size, 0, none⟩ = some (.int .i64 (n : Int)) by rw [hW]; simp)
  have B1 := hide (show W.cell? ⟨w.heap.size, 1, none⟩ = some (.slice A n c) by rw [hW]; simp)
  rw [hWs, ← hW] at HL0
  rw [hWs] at hb2
  rw [← hW] at hg2
  have HO2 := hide hb2
  have HE2 := hide ((Ext.one W (.cells #[] 3)).grown hg2 (fun k hk => (HL0.out.block k (by rw [← hWs]; exact hk)).1))
  have C0 := hide B0.out
  have C1 := hide B1.out
  clear hb2 hg2 hat2 hW hWs
  have HD0 := hide (show DbI ((w2.alloc (.cells #[] 3)).alloc (.cells #[] 22)) W.heap.size B (some ⟨w2.heap.size, 0, none⟩) none (some ⟨w2.heap.size + 1, 0, none⟩) none no d 0 0 0 0 0 0 0 0 o [] [] [] [] by
    have h2 := ((DbI.start_nil HE2.out.size HO2.out).new2 (Ext.one w2 (.cells #[] 3)) (ints_lit0 w2 (Nat.le_refl _))).litG
    simpa using h2)
  have HG0 := hide (show (stD xs o 0).f = o ∧ (stD xs o 0).s = [] ∧ (stD xs o 0).g = [] from ⟨rfl, rfl, rfl⟩)
  go_loopw [5, 6, 7] (fun a b r wr => ∃ (j n1 c1 n2 c2 c4 : Nat) (A1 A2 A4 : Option Addr), (∀ i, i < j → goOn (stD xs o i)) ∧ a = .slice A1 n1 c1 ∧ b = .slice A2 n2 c2 ∧ r = .slice A4 j c4 ∧ Hid (DbI wr W.heap.size A1 A2 none A4 none n1 c1 n2 c2 0 0 j c4 0 0 (stD xs o j).f (stD xs o j).s [] [] (stD xs o j).g) ∧ Ext W wr) (fun a b _ _ => 2 * lenV a + lenV b)
  case atStart => exact ⟨0, no, d, 0, 0, 0, B, some ⟨w2.heap.size, 0, none⟩, some ⟨w2.heap.size + 1, 0, none⟩, (fun i hi => absurd hi (Nat.not_lt_zero _)), rfl, rfl, rfl, HD0, (HE2.out.alloc _).alloc _⟩
  case round =>
    obtain ⟨j, n1, c1, n2, c2, c4, A1, A2, A4, hj, rfl, rfl, rfl, HD, hE⟩ := hrel
    have HER := hide hE
    have HJ := hide hj
    have e0' := hE.get C0.out
    have e1' := hE.get C1.out
    clear hE hj
    have hc1 := HD.out.f.le
    have hc2 := HD.out.f.max
    have hd1 := HD.out.s.le
    have hd2 := HD.out.s.max
    have HL1 := hide HD.out.f.len
    have HL2 := hide HD.out.s.len
    have hjn : j ≤ 16 ∧ 2 * n1 + n2 ≤ 16 := by
      have h1 := st_weight xs o HJ.out
      unfold weight at h1
      rw [HL1.out, HL2.out] at h1
      omega
    have hmem := stD_mem HOB.out HJ.out
    by_cases hgo : 1 < n1 + n2
    · have HGO := hide (show goOn (stD xs o j) by unfold goOn; rw [HL1.out, HL2.out]; exact hgo)
      have HJ1 := hide (stD_go HJ.out HGO.out)
      have hadd : (1 : Int) < (n1 : Int) + (n2 : Int) := by omega
      have hj1 : j + 1 ≤ 1073741824 := by omega
      by_cases h2 : 2 ≤ n1
      · have HF2 := hide (show 2 ≤ (stD xs o j).f.length by rw [HL1.out]; exact h2)
        have hi0n : 0 < n1 := by omega
        have hi1n : 1 < n1 := by omega
        have hi0 : (0 : Int) < (n1 : Int) := by omega
        have hi1 : (1 : Int) < (n1 : Int) := by omega
        have h2i : (2 : Int) ≤ (n1 : Int) := by omega
        obtain ⟨b0, o0, x0, e0, hb0, hl0, hx0, _, hc0', _⟩ := HD.out.f.get (k := 0) (by omega)
        obtain ⟨p, rfl, hp⟩ := hmem x0 (.inl (List.mem_of_getElem? hx0))
        obtain ⟨b1, o1, x1, e1, hb1, hl1, hx1, _, hc1', _⟩ := HD.out.f.get (k := 1) (by omega)
        obtain ⟨q, rfl, hq⟩ := hmem x1 (.inl (List.mem_of_getElem? hx1))
        subst e0
        cases e1
        obtain ⟨u, v, hu, hv, hun, hvn⟩ := won_mem (xs := xs) hp hq
        have HUV := hide (And.intro hu hv)
        have HN := hide (stD_a HF2.out hx0 hx1 hu hv)
        clear hx0 hx1 hmem
        simp only [Nat.add_zero] at hc0'
        have KS := hide (show ∀ w', Ext wr w' → (Ext wr w' ∧ w'.cell? ⟨w.heap.size, 0, none⟩ = some (.int .i64 (n : Int)) ∧ w'.cell? ⟨w.heap.size, 1, none⟩ = some (.slice A n c) ∧ w'.cell? ⟨b0, o0, none⟩ = some (.int .i64 (p : Int)) ∧ w'.cell? ⟨b0, o0 + 1, none⟩ = some (.int .i64 (q : Int))) from
          fun w' hh => ⟨hh, hh.get e0', hh.get e1', hh.get hc0', hh.get hc1'⟩)
        clear hu hv e0' e1' hc0' hc1'
        go_wp2
        go_region_held3 (fun w' => Ext wr w' ∧ w'.cell? ⟨w.heap.size, 0, none⟩ = some (.int .i64 (n : Int)) ∧ w'.cell? ⟨w.heap.size, 1, none⟩ = some (.slice A n c) ∧ w'.cell? ⟨b0, o0, none⟩ = some (.int .i64 (p : Int)) ∧ w'.cell? ⟨b0, o0 + 1, none⟩ = some (.int .i64 (q : Int)))
          (first | exact KS.out _ (Ext.refl _) | exact KS.out _ (Ext.refl _).drew | exact KS.out _ ((Ext.refl _).drew.trans hEG))
          ((go_at_call 49; refine (meet_uv _ _ _ _ xs p q u v _ HT.out (HI.out.ext (HE1.out.trans HER.out).drew) hp hq HUV.out.1 HUV.out.2).mono ?_; rintro e w3 ⟨rfl, hEG⟩))
        have HD3 := hide (HD.out.ext ((Ext.refl wr).drew.trans hEG))
        have HER3 := hide (HER.out.trans ((Ext.refl wr).drew.trans hEG))
        clear hEG HD
        have htl := run_tail_int (some ⟨b0, o0, none⟩) n1 c1 2 (by omega) 2 rfl
        have HTL := hide (HD3.out.f.ints.tail (k := 2) (by omega))
        have hnl : n1 - 2 + 1 ≤ 16 := by omega
        generalize tailA (some ⟨b0, o0, none⟩) c1 2 = T at *
        have HEL := hide (Ext.one w3 (.cells #[] 3))
        have HOL3 := hide (ints_lit0 w3 (Nat.le_refl _))
        go_wp2_with (first
          | (at_builtin; refine push_ints rfl (.tmp 67) (.tmp 69) rfl rfl HOL3.out T _ _ _ rfl (HTL.out.ext HEL.out) (by omega) (by simp) ?_; intro B5 d5 w5 hb5 hg5 hat5; rw [Nat.zero_add, List.nil_append] at hb5; have HB5 := hide hb5; have HE5 := hide (HEL.out.grown hg5 (fun k hk => (HOL3.out.block k hk).1)); clear hb5 hg5 hat5)
          | (at_builtin; refine push_ints (base := w3.heap.size) rfl (.tmp 70) (.tmp 72) rfl rfl (HB5.out.ext (Ext.one _ _)) (some ⟨_, 0, none⟩) 1 1 [(u : Int)] rfl (ints_lit1 _ (base := 0) (u : Int) ⟨by omega, by omega⟩ (Nat.zero_le _)).ints (by omega) (by have := HE5.out.size; simp; omega) ?_; intro B6 d6 w6 hb6 hg6 hat6; have HB6 := hide hb6; have HE6 := hide ((HE5.out.alloc (.cells #[.int .i64 (u : Int)] 3)).grown hg6 (fun k hk => (HB5.out.block k hk).1)); clear hb6 hg6 hat6; have HD6 := hide (HD3.out.new1 HE6.out HB6.out))
          | (at_builtin; refine push_ints (base := W.heap.size) rfl (.tmp 74) (.tmp 76) rfl rfl (HD6.out.s.ext (Ext.one _ _)) (some ⟨_, 0, none⟩) 1 1 [(v : Int)] rfl (ints_lit1 _ (base := 0) (v : Int) ⟨by omega, by omega⟩ (Nat.zero_le _)).ints (by omega) (by have := HD6.out.hb; simp; omega) ?_; intro B7 d7 w7 hb7 hg7 hat7; have HD7 := hide ((HD6.out.ext (Ext.one w6 (.cells #[.int .i64 (v : Int)] 3))).push2 hb7 hg7 hat7); have HE7 := hide (((HER3.out.trans HE6.out).alloc (.cells #[.int .i64 (v : Int)] 3)).grown hg7 (fun k hk => (HD6.out.s.block k hk).1)); have HD8 := hide ((HD7.out.new5 (Ext.one w7 _) (ints_lit2 w7 (base := w7.heap.size) (u : Int) (v : Int) ⟨by omega, by omega⟩ ⟨by omega, by omega⟩ (Nat.le_refl _))).ext (Ext.one _ (.cells #[.slice (some ⟨w7.heap.size, 0, none⟩) 2 2] 22))))
          | (at_builtin; refine push_game rfl (.tmp 78) (.tmp 82) rfl rfl HD8.out (w7.heap.size + 1) rfl (by simp) hj1 ?_; intro B4 d4 w4 hd4 hx4 hz4))
        have HE4 := hide (hz4 W ((HE7.out.alloc (.cells #[.int .i64 (u : Int), .int .i64 (v : Int)] 3)).alloc (.cells #[.slice (some ⟨w7.heap.size, 0, none⟩) 2 2] 22)) (Nat.le_refl _))
        have HD4 := hide hd4
        clear hd4 hx4 hz4
        rw [← HN.out.1, ← HN.out.2.1, ← HN.out.2.2.2] at HD4
        go_roundw
        case rel => exact ⟨j + 1, n1 - 2 + 1, d6, n2 + 1, d7, d4, B6, B7, B4, HJ1.out, rfl, rfl, rfl, HD4, HE4.out⟩
        case measure => (simp [lenV] <;> omega)
      · have HF2 := hide (show ¬ 2 ≤ (stD xs o j).f.length by rw [HL1.out]; exact h2)
        have h2i : ¬ (2 : Int) ≤ (n1 : Int) := by omega
        by_cases h3 : 2 ≤ n2
        · have HS2 := hide (show 2 ≤ (stD xs o j).s.length by rw [HL2.out]; exact h3)
          have hi0n : 0 < n2 := by omega
          have hi1n : 1 < n2 := by omega
          have hi0 : (0 : Int) < (n2 : Int) := by omega
          have hi1 : (1 : Int) < (n2 : Int) := by omega
          have h3i : (2 : Int) ≤ (n2 : Int) := by omega
          obtain ⟨b0, o0, x0, e0, hb0, hl0, hx0, _, hc0', _⟩ := HD.out.s.get (k := 0) (by omega)
          obtain ⟨p, rfl, hp⟩ := hmem x0 (.inr (List.mem_of_getElem? hx0))
          obtain ⟨b1, o1, x1, e1, hb1, hl1, hx1, _, hc1', _⟩ := HD.out.s.get (k := 1) (by omega)
          obtain ⟨q, rfl, hq⟩ := hmem x1 (.inr (List.mem_of_getElem? hx1))
          subst e0
          cases e1
          obtain ⟨u, v, hu, hv, hun, hvn⟩ := won_mem (xs := xs) hp hq
          have HUV := hide (And.intro hu hv)
          have HN := hide (stD_b HF2.out HS2.out hx0 hx1 hu hv)
          clear hx0 hx1 hmem
          simp only [Nat.add_zero] at hc0'
          have KS := hide (show ∀ w', Ext wr w' → (Ext wr w' ∧ w'.cell? ⟨w.heap.size, 0, none⟩ = some (.int .i64 (n : Int)) ∧ w'.cell? ⟨w.heap.size, 1, none⟩ = some (.slice A n c) ∧ w'.cell? ⟨b0, o0, none⟩ = some (.int .i64 (p : Int)) ∧ w'.cell? ⟨b0, o0 + 1, none⟩ = some (.int .i64 (q : Int))) from
            fun w' hh => ⟨hh, hh.get e0', hh.get e1', hh.get hc0', hh.get hc1'⟩)
          clear hu hv e0' e1' hc0' hc1'
          go_wp2
          go_region_held3 (fun w' => Ext wr w' ∧ w'.cell? ⟨w.heap.size, 0, none⟩ = some (.int .i64 (n : Int)) ∧ w'.cell? ⟨w.heap.size, 1, none⟩ = some (.slice A n c) ∧ w'.cell? ⟨b0, o0, none⟩ = some (.int .i64 (p : Int)) ∧ w'.cell? ⟨b0, o0 + 1, none⟩ = some (.int .i64 (q : Int)))
            (first | exact KS.out _ (Ext.refl _) | exact KS.out _ (Ext.refl _).drew | exact KS.out _ ((Ext.refl _).drew.trans hEG))
            ((go_at_call 49; refine (meet_uv _ _ _ _ xs p q u v _ HT.out (HI.out.ext (HE1.out.trans HER.out).drew) hp hq HUV.out.1 HUV.out.2).mono ?_; rintro e w3 ⟨rfl, hEG⟩))
          have HD3 := hide (HD.out.ext ((Ext.refl wr).drew.trans hEG))
          have HER3 := hide (HER.out.trans ((Ext.refl wr).drew.trans hEG))
          clear hEG HD
          have htl := run_tail_int (some ⟨b0, o0, none⟩) n2 c2 2 (by omega) 2 rfl
          have HTL := hide (HD3.out.s.ints.tail (k := 2) (by omega))
          have hnl : n2 - 2 + 1 ≤ 16 := by omega
          generalize tailA (some ⟨b0, o0, none⟩) c2 2 = T at *
          have HEL := hide (Ext.one w3 (.cells #[] 3))
          have HOL3 := hide (ints_lit0 w3 (Nat.le_refl _))
          go_wp2_with (first
            | (at_builtin; refine push_ints rfl (.tmp 99) (.tmp 101) rfl rfl HOL3.out T _ _ _ rfl (HTL.out.ext HEL.out) (by omega) (by simp) ?_; intro B5 d5 w5 hb5 hg5 hat5; rw [Nat.zero_add, List.nil_append] at hb5; have HB5 := hide hb5; have HE5 := hide (HEL.out.grown hg5 (fun k hk => (HOL3.out.block k hk).1)); clear hb5 hg5 hat5)
            | (at_builtin; refine push_ints (base := w3.heap.size) rfl (.tmp 102) (.tmp 104) rfl rfl (HB5.out.ext (Ext.one _ _)) (some ⟨_, 0, none⟩) 1 1 [(u : Int)] rfl (ints_lit1 _ (base := 0) (u : Int) ⟨by omega, by omega⟩ (Nat.zero_le _)).ints (by omega) (by have := HE5.out.size; simp; omega) ?_; intro B6 d6 w6 hb6 hg6 hat6; have HB6 := hide hb6; have HE6 := hide ((HE5.out.alloc (.cells #[.int .i64 (u : Int)] 3)).grown hg6 (fun k hk => (HB5.out.block k hk).1)); clear hb6 hg6 hat6; have HD6 := hide (HD3.out.new2 HE6.out HB6.out); have HD8 := hide ((HD6.out.new5 (Ext.one w6 _) (ints_lit2 w6 (base := w6.heap.size) (u : Int) (v : Int) ⟨by omega, by omega⟩ ⟨by omega, by omega⟩ (Nat.le_refl _))).ext (Ext.one _ (.cells #[.slice (some ⟨w6.heap.size, 0, none⟩) 2 2] 22))))
            | (at_builtin; refine push_game rfl (.tmp 106) (.tmp 110) rfl rfl HD8.out (w6.heap.size + 1) rfl (by simp) hj1 ?_; intro B4 d4 w4 hd4 hx4 hz4))
          have HE4 := hide (hz4 W (((HER3.out.trans HE6.out).alloc (.cells #[.int .i64 (u : Int), .int .i64 (v : Int)] 3)).alloc (.cells #[.slice (some ⟨w6.heap.size, 0, none⟩) 2 2] 22)) (Nat.le_refl _))
          have HD4 := hide hd4
          clear hd4 hx4 hz4
          rw [← HN.out.1, ← HN.out.2.1, ← HN.out.2.2.2] at HD4
          go_roundw
          case rel => exact ⟨j + 1, n1, c1, n2 - 2 + 1, d6, d4, A1, B6, B4, HJ1.out, rfl, rfl, rfl, HD4, HE4.out⟩
          case measure => (simp [lenV] <;> omega)
        · have HS2 := hide (show ¬ 2 ≤ (stD xs o j).s.length by rw [HL2.out]; exact h3)
          have h3i : ¬ (2 : Int) ≤ (n2 : Int) := by omega
          have hi0n : 0 < n1 := by omega
          have hi1n : 0 < n2 := by omega
          have hi0 : (0 : Int) < (n1 : Int) := by omega
          have hi1 : (0 : Int) < (n2 : Int) := by omega
          obtain ⟨b0, o0, x0, e0, hb0, hl0, hx0, _, hc0', _⟩ := HD.out.f.get (k := 0) (by omega)
          obtain ⟨p, rfl, hp⟩ := hmem x0 (.inl (List.mem_of_getElem? hx0))
          obtain ⟨b1, o1, x1, e1, hb1, hl1, hx1, _, hc1', _⟩ := HD.out.s.get (k := 0) (by omega)
          obtain ⟨q, rfl, hq⟩ := hmem x1 (.inr (List.mem_of_getElem? hx1))
          subst e0 e1
          obtain ⟨u, v, hu, hv, hun, hvn⟩ := won_mem (xs := xs) hp hq
          have HUV := hide (And.intro hu hv)
          have HN := hide (stD_c HF2.out HS2.out hx0 hx1 hu hv (stD_ne HND.out HJ.out (List.mem_of_getElem? hx0) (List.mem_of_getElem? hx1)))
          have HX0 := hide hx0
          clear hx0 hx1 hmem
          simp only [Nat.add_zero] at hc0' hc1'
          have KS := hide (show ∀ w', Ext wr w' → (Ext wr w' ∧ w'.cell? ⟨w.heap.size, 0, none⟩ = some (.int .i64 (n : Int)) ∧ w'.cell? ⟨w.heap.size, 1, none⟩ = some (.slice A n c) ∧ w'.cell? ⟨b0, o0, none⟩ = some (.int .i64 (p : Int)) ∧ w'.cell? ⟨b1, o1, none⟩ = some (.int .i64 (q : Int))) from
            fun w' hh => ⟨hh, hh.get e0', hh.get e1', hh.get hc0', hh.get hc1'⟩)
          clear hu hv e0' e1' hc0' hc1'
          go_wp2
          go_region_held3 (fun w' => Ext wr w' ∧ w'.cell? ⟨w.heap.size, 0, none⟩ = some (.int .i64 (n : Int)) ∧ w'.cell? ⟨w.heap.size, 1, none⟩ = some (.slice A n c) ∧ w'.cell? ⟨b0, o0, none⟩ = some (.int .i64 (p : Int)) ∧ w'.cell? ⟨b1, o1, none⟩ = some (.int .i64 (q : Int)))
            (first | exact KS.out _ (Ext.refl _) | exact KS.out _ (Ext.refl _).drew | exact KS.out _ ((Ext.refl _).drew.trans hEG))
            ((go_at_call 49; refine (meet_uv _ _ _ _ xs p q u v _ HT.out (HI.out.ext (HE1.out.trans HER.out).drew) hp hq HUV.out.1 HUV.out.2).mono ?_; rintro e w3 ⟨rfl, hEG⟩))
          have HD3 := hide (HD.out.ext ((Ext.refl wr).drew.trans hEG))
          have HER3 := hide (HER.out.trans ((Ext.refl wr).drew.trans hEG))
          clear hEG HD
          have HD8 := hide ((HD3.out.new5 (Ext.one w3 _) (ints_lit2 w3 (base := w3.heap.size) (u : Int) (v : Int) ⟨by omega, by omega⟩ ⟨by omega, by omega⟩ (Nat.le_refl _))).ext (Ext.one _ (.cells #[.slice (some ⟨w3.heap.size, 0, none⟩) 2 2] 22)))
          by_cases hup : (u : Int) = (p : Int)
          · have hbe : ((u : Int) == (p : Int)) = true := by simpa using hup
            have HN2 := hide (HN.out.2.1 hup)
            clear hup
            go_wp2_with (at_builtin; refine push_game rfl (.tmp 36) (.tmp 40) rfl rfl HD8.out (w3.heap.size + 1) rfl (by simp) hj1 ?_; intro B4 d4 w4 hd4 hx4 hz4; have HD4 := hide hd4; have HE4 := hide (hz4 W ((HER3.out.alloc (.cells #[.int .i64 (u : Int), .int .i64 (v : Int)] 3)).alloc (.cells #[.slice (some ⟨w3.heap.size, 0, none⟩) 2 2] 22)) (Nat.le_refl _)); obtain ⟨b3, o3, x3, e3, _, _, hx3, _, hc3, _⟩ := hd4.f.get (k := 0) (by omega); cases e3; obtain rfl : x3 = (p : Int) := (by have h9 := HX0.out; rw [hx3] at h9; simpa using h9); simp only [Nat.add_zero] at hc3; clear hd4 hx4 hz4 hx3)
            have HD5 := hide (HD4.out.new2 (Ext.one w4 (.cells #[] 3)) (ints_lit0 w4 (Nat.le_refl _)))
            go_roundw
            case rel => exact ⟨j + 1, n1, c1, 0, 0, d4, some ⟨b0, o0, none⟩, some ⟨w4.heap.size, 0, none⟩, B4, HJ1.out, rfl, rfl, rfl, hide (by rw [HN.out.1, HN2.out.1, HN2.out.2.1]; exact HD5.out), HE4.out.alloc _⟩
            case measure => (simp [lenV] <;> omega)
          · have hbe : ((u : Int) == (p : Int)) = false := by simpa using hup
            have HN2 := hide (HN.out.2.2 hup)
            clear hup
            go_wp2_with (at_builtin; refine push_game rfl (.tmp 36) (.tmp 40) rfl rfl HD8.out (w3.heap.size + 1) rfl (by simp) hj1 ?_; intro B4 d4 w4 hd4 hx4 hz4; have HD4 := hide hd4; have HE4 := hide (hz4 W ((HER3.out.alloc (.cells #[.int .i64 (u : Int), .int .i64 (v : Int)] 3)).alloc (.cells #[.slice (some ⟨w3.heap.size, 0, none⟩) 2 2] 22)) (Nat.le_refl _)); obtain ⟨b3, o3, x3, e3, _, _, hx3, _, hc3, _⟩ := hd4.f.get (k := 0) (by omega); cases e3; obtain rfl : x3 = (p : Int) := (by have h9 := HX0.out; rw [hx3] at h9; simpa using h9); simp only [Nat.add_zero] at hc3; clear hd4 hx4 hz4 hx3)
            have HD5 := hide (show DbI ((w4.alloc (.cells #[] 3)).alloc (.cells #[.int .i64 (v : Int), .int .i64 (u : Int)] 3)) W.heap.size (some ⟨w4.heap.size, 0, none⟩) (some ⟨w4.heap.size + 1, 0, none⟩) none B4 none 0 0 2 2 0 0 (j + 1) d4 0 0 [] [(v : Int), (u : Int)] [] [] ((stD xs o j).g ++ [[(u : Int), (v : Int)]]) by
              have h9 := (HD4.out.new1 (Ext.one w4 (.cells #[] 3)) (ints_lit0 w4 (Nat.le_refl _))).new2 (Ext.one _ _) (ints_lit2 (w4.alloc (.cells #[] 3)) (base := (w4.alloc (.cells #[] 3)).heap.size) (v : Int) (u : Int) ⟨by omega, by omega⟩ ⟨by omega, by omega⟩ (Nat.le_refl _))
              simpa using h9)
            go_roundw
            case rel => exact ⟨j + 1, 0, 0, 2, 2, d4, some ⟨w4.heap.size, 0, none⟩, some ⟨w4.heap.size + 1, 0, none⟩, B4, HJ1.out, rfl, rfl, rfl, hide (by rw [HN.out.1, HN2.out.1, HN2.out.2.1]; exact HD5.out), (HE4.out.alloc _).alloc _⟩
            case measure => (simp [lenV] <;> omega)
    · have hgi : ¬ (1 : Int) < (n1 : Int) + (n2 : Int) := by omega
      have HV := hide (show doubleG xs o = (stD xs o j).g by unfold doubleG endD; rw [lenD_eq HJ.out (show ¬ goOn (stD xs o j) by unfold goOn; rw [HL1.out, HL2.out]; exact hgo)])
      have HG := hide HD.out.rows
      clear HD
      have hl := HG.out.len
      go_wp2
      go_ret
      rw [HV.out]
      exact RetG.mk rfl (HG.out.mono (by have := HE1.out.size; omega) (Nat.le_refl _)) (HE1.out.trans HER.out)

end Go.Proofs.Ytkfijamaakjifaa
