/-
  Words and contracts on tours: the laws' helpers, who beats whom, is a tour valid.
-/
import Derived.Laws.ShiftsVar
import Derived.Deep.RegionHeld3
import Derived.Test.YtbaljgdepicigaaDoorBase
import Derived.Test.YtbaljgdepicigaaDoorMgA
import Derived.Test.YtbaljgdepicigaaDoorLib
import Derived.Test.YtbaljgdepicigaaDoorAid
import Derived.Test.YtbaljgdepicigaaDoorGrid
import Derived.Test.YtbaljgdepicigaaDoorLibF
import Derived.Test.YtbaljgdepicigaaDoorTour
namespace Go.Proofs.YtbaljgdepicigaaDoor
open Go.RowKit
set_option linter.unusedVariables false

-- spec.TourOk
theorem tour_not {s : Int} {xs : List Int} {a b n : Nat} (hl : xs.length = n) (ha : a < n) (hb : b < a) (hne : bitAt (xs.getD a 0) b = bitAt (xs.getD b 0) a) : ¬ tourOk s xs := fun ht => by
  have := (ht.2.2.2 a (by omega)).1 b hb
  unfold bts at this
  rw [hne] at this
  by_cases e : bitAt (xs.getD b 0) a = 1 <;> simp at this
theorem tour_iff {xs : List Int} {a b : Nat} (h : ¬ bitAt (xs.getD a 0) b = bitAt (xs.getD b 0) a) : bts xs a b ↔ ¬ bts xs b a := by
  unfold bts
  rcases bitAt_01 (xs.getD a 0) b with e | e <;> rcases bitAt_01 (xs.getD b 0) a with e2 | e2 <;> rw [e, e2] at h ⊢ <;> simp at h ⊢
theorem sTourOk_any (s : Int) (A : Option Addr) (n c : Nat) (xs : List Int) (w : World) (h : Ints w A n c xs) :
    Calls Tryd.prog 94 #[.agg #[.int .i64 s, .slice A n c]] w fun e w' => e = .returned (.bool (decide (tourOk s xs))) ∧ Ext w w' := by
  have HL := hide h.len
  have hle := h.le
  have hmx := h.max
  have HI := hide h
  have HE0 := hide (Ext.one w (.cells #[.int .i64 s, .slice A n c] 26))
  clear h
  by_cases h1 : 1 ≤ s ∧ s ≤ 8
  · have HD := hide (decide_eq_true h1)
    by_cases h2 : (n : Int) = s
    · subst h2
      have hb2 : ((n : Int) != (n : Int)) = false := by simp
      have hpw := pow_le_256 (n := n) (by omega)
      have hpw1 := pow_pos2 n
      have HW : Hid (wrap64 (2 ^ n) - 1 = 2 ^ n - 1) := hide (by unfold wrap64; omega)
      have hwb : 0 ≤ wrap64 (2 ^ n) ∧ wrap64 (2 ^ n) ≤ 256 := by unfold wrap64; omega
      clear hpw hpw1
      go_enter Tryd.func94, Tryd.ntmps94
      go_wp2_with (go_at_call 96; refine (l01In_any _ _ _ _).mono ?_; rw [HD.out]; rintro e w' ⟨rfl, rfl⟩)
      clear hb2
      obtain ⟨W, hW⟩ : ∃ W : World, W = (w.alloc (.cells #[.int .i64 (n : Int), .slice A n c] 26)) := ⟨_, rfl⟩
      have HE := hide (show Ext w W by rw [hW]; exact HE0.out)
      have c0 : W.cell? ⟨w.heap.size, 0, none⟩ = some (.int .i64 (n : Int)) := by rw [hW]; simp
      have c1 : W.cell? ⟨w.heap.size, 1, none⟩ = some (.slice A n c) := by rw [hW]; simp
      rw [← hW]
      clear hW HE0
      go_loopw [21] (fun i wr => ∃ a : Nat, a ≤ n ∧ i = .int .i64 a ∧ Hid (tourTo xs a ∧ ∀ x ∈ xs.take a, 0 ≤ x ∧ x ≤ 2 ^ n - 1) ∧ Qt W wr) (fun i _ => n - (intOf i).toNat)
      case atStart => exact ⟨0, Nat.zero_le _, rfl, hide ⟨fun a ha => absurd ha (Nat.not_lt_zero _), by simp⟩, Qt.refl _⟩
      case round =>
        obtain ⟨a, ha, rfl, HT, hE⟩ := hrel
        obtain ⟨q, rfl⟩ := hE
        by_cases hlt : a < n
        · obtain ⟨b0, o0, m, rfl, hb0, hx, wx, hc⟩ := (HI.out.ext HE.out).get hlt
          have HX := hide hx
          have hmm := wx.2
          have HN := hide (fun ht : tourOk (n : Int) xs => ht.2.2.1 m (List.mem_of_getElem? hx))
          clear hx
          by_cases hin : 0 ≤ m ∧ m ≤ 2 ^ n - 1
          · have HIN := hide (show decide (0 ≤ m ∧ m ≤ wrap64 (2 ^ n) - 1) = true by rw [HW.out]; exact decide_eq_true hin)
            have hm0 := hin.1
            have HBA := hide (and_bit2 hm0 hmm a)
            have hs0 := shr_bound2 hm0 a
            have HII := hide hin
            clear hin
            have HG := hide (show xs.getD a 0 = m by rw [List.getD, HX.out]; rfl)
            by_cases haa : bitAt m a = 1
            · have HNT := hide (show ¬ tourOk (n : Int) xs from fun ht => (ht.2.2.2 a (by have := HL.out; omega)).2 (by unfold bts; rw [HG.out]; exact haa))
              have hbb : (bits BinOp.and IntKind.i64 (m / 2 ^ a) 1 == 1) = true := by rw [HBA.out, haa]; rfl
              clear haa
              go_wp2_with (go_at_call 96; refine (l01In_any _ _ _ _).mono ?_; rw [HIN.out]; rintro e w' ⟨rfl, rfl⟩)
              go_ret
              exact ⟨ret_bool (by symm; rw [decide_eq_false_iff_not]; exact HNT.out), HE.out.drewN q⟩
            · have hbb : (bits BinOp.and IntKind.i64 (m / 2 ^ a) 1 == 1) = false := by rw [HBA.out]; simpa using haa
              have HAA := hide haa
              clear haa
              go_wp2_with (go_at_call 96; refine (l01In_any _ _ _ _).mono ?_; rw [HIN.out]; rintro e w' ⟨rfl, rfl⟩)
              clear hbb hs0
              go_loopw [5] (fun i wr => ∃ b : Nat, b ≤ a ∧ i = .int .i64 b ∧ Hid (∀ k, k < b → (bts xs a k ↔ ¬ bts xs k a)) ∧ Qt W wr) (fun i _ => a - (intOf i).toNat)
              case atStart => exact ⟨0, Nat.zero_le _, rfl, hide (fun k hk => absurd hk (Nat.not_lt_zero _)), ⟨q, rfl⟩⟩
              case round =>
                obtain ⟨b, hb, rfl, HB, hE2⟩ := hrel
                obtain ⟨q2, rfl⟩ := hE2
                by_cases hltb : b < a
                · obtain ⟨b1, o1, y, e1, hb1, hy, wy, hcy⟩ := (HI.out.ext HE.out).get (k := b) (by omega)
                  cases e1
                  have hym := wy.2
                  have HY := hide hy
                  have HGY := hide (show xs.getD b 0 = y by rw [List.getD, HY.out]; rfl)
                  clear hy
                  by_cases hy0 : 0 ≤ y
                  · have HB1 := hide (and_bit2 hm0 hmm b)
                    have HB2 := hide (and_bit2 hy0 hym a)
                    have hs1 := shr_bound2 hm0 b
                    have hs2 := shr_bound2 hy0 a
                    have hbi : (0 : Int) ≤ (b : Int) := by omega
                    have hbn : (b : Int) < (n : Int) := by omega
                    by_cases hab : bitAt m b = bitAt y a
                    · have HNT := hide (tour_not (s := (n : Int)) HL.out hlt hltb (by rw [HG.out, HGY.out]; exact hab))
                      have HQ : Hid ((bits BinOp.and IntKind.i64 (m / 2 ^ b) 1 == bits BinOp.and IntKind.i64 (y / 2 ^ a) 1) = true) := hide (by rw [HB1.out, HB2.out, hab]; simp)
                      clear hab
                      go_wp2
                      go_quiet (fail)
                      rw [HQ.out]
                      go_wp2
                      go_ret
                      exact ⟨ret_bool (by symm; rw [decide_eq_false_iff_not]; exact HNT.out), (HE.out.drewN _).drewN _⟩
                    · have HAB := hide (tour_iff (xs := xs) (a := a) (b := b) (by rw [HG.out, HGY.out]; exact hab))
                      have HQ : Hid ((bits BinOp.and IntKind.i64 (m / 2 ^ b) 1 == bits BinOp.and IntKind.i64 (y / 2 ^ a) 1) = false) := hide (by rw [HB1.out, HB2.out]; simpa using hab)
                      clear hab
                      go_wp2
                      go_quiet (fail)
                      rw [HQ.out]
                      go_wp2
                      go_roundw
                      case rel => exact ⟨b + 1, by omega, by go_num, hide (upTo_succ HB.out HAB.out), ⟨_, rfl⟩⟩
                      case measure => (simp [intOf] <;> omega)
                  · exact absurd (HT.out.2 y (mem_take_of HY.out hltb)).1 hy0
                · have hke : b = a := by omega
                  subst hke
                  go_wp2
                  go_roundw
                  case rel =>
                    refine ⟨b + 1, by omega, by go_num, hide ⟨tourTo_succ HT.out.1 HB.out (by unfold bts; rw [HG.out]; exact HAA.out), ?_⟩, ⟨_, rfl⟩⟩
                    rw [take_snoc_of HX.out]
                    intro z hz
                    rcases List.mem_append.1 hz with hz | hz
                    · exact HT.out.2 z hz
                    · obtain rfl : z = m := by simpa using hz
                      exact HII.out
                  case measure => (simp [intOf] <;> omega)
          · have HIN := hide (show decide (0 ≤ m ∧ m ≤ wrap64 (2 ^ n) - 1) = false by rw [HW.out]; exact decide_eq_false hin)
            have HNT := hide (show ¬ tourOk (n : Int) xs from fun ht => hin (by have := HN.out ht; rwa [HL.out] at this))
            clear hin
            go_wp2_with (go_at_call 96; refine (l01In_any _ _ _ _).mono ?_; rw [HIN.out]; rintro e w' ⟨rfl, rfl⟩)
            go_ret
            exact ⟨ret_bool (by symm; rw [decide_eq_false_iff_not]; exact HNT.out), HE.out.drewN q⟩
        · have hke : a = n := by omega
          subst hke
          go_wp2
          go_ret
          exact ⟨ret_bool (by symm; rw [decide_eq_true_eq]; exact ⟨h1, by have := HL.out; omega, by rw [HL.out]; have := HT.out.2; rwa [take_len HL.out] at this, by rw [HL.out]; exact HT.out.1⟩), HE.out.drewN q⟩
    · have hb2 : ((n : Int) != s) = true := by simpa using h2
      have HNT := hide (show ¬ tourOk s xs from fun ht => h2 (by have := ht.2.1; rwa [HL.out] at this))
      clear h2
      go_enter Tryd.func94, Tryd.ntmps94
      go_wp2_with (go_at_call 96; refine (l01In_any _ _ _ _).mono ?_; rw [HD.out]; rintro e w' ⟨rfl, rfl⟩)
      go_ret
      exact ⟨ret_bool (by symm; rw [decide_eq_false_iff_not]; exact HNT.out), HE0.out⟩
  · have HNT := hide (show ¬ tourOk s xs from fun ht => h1 ht.1)
    have HD := hide (decide_eq_false h1)
    clear h1
    go_enter Tryd.func94, Tryd.ntmps94
    go_wp2_with (go_at_call 96; refine (l01In_any _ _ _ _).mono ?_; rw [HD.out]; rintro e w' ⟨rfl, rfl⟩)
    go_ret
    exact ⟨ret_bool (by symm; rw [decide_eq_false_iff_not]; exact HNT.out), HE0.out⟩

end Go.Proofs.YtbaljgdepicigaaDoor
