/-
  Contract of the program's function that tells distances on a line.
-/
import Derived.Deep.RegionLaw
import Derived.Deep.DeepCutAuto
import Derived.Test.YtbaljgdepicigaaBase
import Derived.Test.YtbaljgdepicigaaMathA
import Derived.Test.YtbaljgdepicigaaMathD
import Derived.Test.YtbaljgdepicigaaLib
import Derived.Test.YtbaljgdepicigaaAid
import Derived.Test.YtbaljgdepicigaaStep
import Derived.Test.YtbaljgdepicigaaGrid
import Derived.Test.YtbaljgdepicigaaLibF
import Derived.Test.YtbaljgdepicigaaMathB
import Derived.Test.YtbaljgdepicigaaMathU
import Derived.Test.YtbaljgdepicigaaMathW
import Derived.Test.YtbaljgdepicigaaMathT
import Derived.Test.YtbaljgdepicigaaMathM
import Derived.Test.YtbaljgdepicigaaMathTr
import Derived.Test.YtbaljgdepicigaaMathTp
import Derived.Test.YtbaljgdepicigaaDist
import Derived.Test.YtbaljgdepicigaaCurA
import Derived.Test.YtbaljgdepicigaaDrwA
import Derived.Test.YtbaljgdepicigaaDrwB
import Derived.Test.YtbaljgdepicigaaTrvB
import Derived.Test.YtbaljgdepicigaaTrvA
import Derived.Test.YtbaljgdepicigaaTrvE
namespace Go.Proofs.Ytbaljgdepicigaa
open Go.RowKit
set_option linter.unusedVariables false
set_option maxRecDepth 100000

-- impl.LineDistances
set_option maxHeartbeats 4000000 in
theorem iLine_any (A : Option Addr) (n c : Nat) (l : List Int) (w : World) (h : Ints w A n c l) (hc : clubs (n : Int)) (hb : ∀ x ∈ l, 0 ≤ x ∧ x ≤ 1000) :
    Calls Try.prog 61 #[.slice A n c] w (RetG w (lineFar l)) := by
  have HL := hide h.len
  have HI := hide h
  have HB := hide hb
  have hle := h.le
  have hmx := h.max
  have hn10 : n ≤ 10 := by have := hc.1; omega
  have CS := hide (isClubs_any (n : Int) w)
  rw [decide_eq_true hc] at CS
  have CW := hide (fun (w' : World) (hE : Ext w w') => allWithin_any A n c l 0 1000 w' (h.ext hE))
  rw [decide_eq_true hb] at CW
  have hmk : ∀ w : World, (Instr.makeSlice 36 (.int .i64 (n : Int)) (.int .i64 (n : Int))).run Try.prog w = .ok (.slice (some ⟨w.heap.size, 0, none⟩) n n) (w.alloc (.cells (Array.replicate n (.slice none 0 0)) 23)) := run_make_gen (P := Try.prog) Try.underlying36 info_sl rfl n (by omega) (by omega)
  clear h hb hc
  go_enter Try.func61, Try.ntmps61
  go_wp2_with fail
  refine CS.out.mono ?_
  rintro e w1 ⟨rfl, rfl⟩
  go_wp2_with fail
  refine (CW.out _ (Ext.refl _)).mono ?_
  rintro e w2 ⟨rfl, hE3⟩
  have H0 := hide (show ∃ hs, OwGH (w2.alloc (.cells (Array.replicate n (.slice none 0 0)) 23)) w.heap.size (w2.alloc (.cells (Array.replicate n (.slice none 0 0)) 23)).heap.size (some ⟨w2.heap.size, 0, none⟩) n n hs (midL l 0 0) from by
    refine ⟨List.replicate n (none, 0, 0), by simpa [sv] using (Ow.fill w2 (base := w.heap.size) (E := 23) (.slice none 0 0) n (by omega) hE3.size), fun k hk => by simp at hk; subst hk; simp, by rw [midL_len, HL.out]; simp, fun i x r hx hr => ?_, fun i j x y _ hx _ => ?_⟩
    · have e1 := List.eq_of_mem_replicate (List.mem_of_getElem? hx)
      subst e1
      have hil : i < n := by have := (List.getElem?_eq_some_iff.1 hx).1; simpa using this
      have e2 : r = [] := by
        unfold midL at hr
        rw [List.getElem?_map, List.getElem?_range (by rw [HL.out]; exact hil)] at hr
        simp only [Option.map_some, Nat.not_lt_zero, if_false, List.take_zero] at hr
        have hr := Option.some.inj hr
        rw [← hr]
        split <;> rfl
      subst e2
      exact ⟨OwI.nil _ _, fun k hk => by cases hk⟩
    · have e1 := List.eq_of_mem_replicate (List.mem_of_getElem? hx)
      subst e1
      exact .inr rfl)
  have HE3 := hide (hE3.trans (Ext.one w2 (.cells (Array.replicate n (.slice none 0 0)) 23)))
  clear hE3
  go_wp2
  generalize w2.heap.size = B0 at *
  clear hmk
  go_loopw [22] (fun i wr => ∃ k : Nat, k ≤ n ∧ i = .int .i64 (k : Int) ∧ Hid (∃ hs, OwGH wr w.heap.size wr.heap.size (some ⟨B0, 0, none⟩) n n hs (midL l k 0)) ∧ Hid (Ext w wr)) (fun i _ => n - (intOf i).toNat)
  case atStart => exact ⟨0, Nat.zero_le _, rfl, H0, HE3⟩
  case round =>
    obtain ⟨k, hk, rfl, HG, HER⟩ := hrel
    obtain ⟨wb, rfl⟩ : ∃ wb : World, wb = wr := ⟨_, rfl⟩
    by_cases hlt : k < n
    · have hki : (k : Int) < (n : Int) := by omega
      obtain ⟨b, off, x, rfl, hbl, hx, wx, hcx⟩ := (HI.out.ext HER.out).get hlt
      have hxb := HB.out x (List.mem_of_getElem? hx)
      have HX := hide (show l.getD k 0 = x by rw [List.getD_eq_getElem?_getD, hx]; rfl)
      clear hx hbl
      go_wp2
      go_loopw [29] (fun i wr => ∃ j : Nat, j ≤ n ∧ i = .int .i64 (j : Int) ∧ Hid (∃ hs, OwGH wr w.heap.size wr.heap.size (some ⟨B0, 0, none⟩) n n hs (midL l k j)) ∧ Hid (Ext w wr)) (fun i _ => n - (intOf i).toNat)
      case atStart => exact ⟨0, Nat.zero_le _, rfl, HG, HER⟩
      case round =>
        obtain ⟨j, hj, rfl, HGj, HEj⟩ := hrel
        by_cases hjl : j < n
        · have hji : (j : Int) < (n : Int) := by omega
          obtain ⟨b2, o2, y, e9, hb2, hx2, wx2, hcy⟩ := (HI.out.ext HEj.out).get hjl
          cases e9
          have hyb := HB.out y (List.mem_of_getElem? hx2)
          have HN := hide (rowL_snoc x hx2)
          have hw1 : IntKind.i64.wrap (x - y) = x - y := by rw [IntKind.wrap_i64]; omega
          have hw2 : IntKind.i64.wrap (y - x) = y - x := by rw [IntKind.wrap_i64]; omega
          obtain ⟨v, hv⟩ : ∃ v, (if x - y < y - x then y - x else x - y) = v := ⟨_, rfl⟩
          have HV := hide (show max (x - y) (y - x) = v by rw [← hv]; split <;> omega)
          have hvb : 0 ≤ v ∧ v ≤ 1000 := by rw [← hv]; split <;> omega
          obtain ⟨hs, hgh⟩ := HGj.out
          have hkl : k < l.length := by rw [HL.out]; exact hlt
          obtain ⟨z, hz⟩ : ∃ z, hs[k]? = some z := ⟨_, List.getElem?_eq_getElem (by rw [hgh.hl, midL_len]; exact hkl)⟩
          obtain ⟨A1, m1, d1⟩ := z
          have hrw := hgh.row k _ _ hz (midL_get l j hkl)
          rw [HX.out] at hrw
          have hm1 : m1 = j := by have := hrw.ow.len; rw [rowL_len, List.length_take, HL.out] at this; dsimp only at this; omega
          subst hm1
          have hout : wr.cell? ⟨B0, k, none⟩ = some (.slice A1 m1 d1) := by
            have hv : (hs.map sv)[k]? = some (.slice A1 m1 d1) := by rw [List.getElem?_map, hz]; rfl
            obtain ⟨b, off, e, _, hcell⟩ := hgh.ow.rd.at_ (by omega)
            cases e
            simpa using hcell k _ hv
          have HGH := hide hgh
          have HZ := hide hz
          have HRW := hide hrw.ow
          have hzr := HEj.out.size
          have hneB : some B0 ≠ A1.map (·.block) := by
            rcases hgh.ne_row hz (midL_get l m1 hkl) with h | h
            · exact h
            · cases h
          have HBS := hide (hgh.ow.block B0 rfl).1
          clear hx2 hgh hz hrw hkl HGj
          have HWA := hide (HGH.out.keptT (Ext.one wr (.cells #[.int .i64 v] 3)) (Nat.le_refl _))
          go_wp2_with (at_builtin; refine push_ints (base := w.heap.size) rfl (.tmp 38) (.tmp 46) rfl rfl (HRW.out.ext (Ext.one _ _)) (some ⟨_, 0, none⟩) 1 1 [v] rfl (ints_lit1 _ (base := 0) v ⟨by omega, by omega⟩ (Nat.zero_le _)).ints (by omega) (by simp; omega) ?_; intro A6 c6 w6 hb6 hg6 hat6; obtain ⟨bq, oq, vq, eq, _, _, _, fo, ff⟩ := (HWA.out.ow.grown hg6 (.inl hneB)).get hlt; cases eq; simp only [Nat.zero_add] at fo ff; have HB6 := hide hb6; have HG6 := hide hg6; have HAT6 := hide hat6; clear hb6 hg6 hat6)
          have hkl : k < l.length := by rw [HL.out]; exact hlt
          have HP := hide (HWA.out.putT (Nat.le_refl _) rfl hlt HZ.out (midL_get l m1 hkl) HG6.out HB6.out HAT6.out)
          rw [Nat.zero_add, ← HV.out, ← HN.out, ← HX.out, midL_set l m1 hkl] at HP
          have HE7 := hide (((HEj.out.alloc (.cells #[.int .i64 v] 3)).grown HG6.out (fun q hq => (HRW.out.block q hq).1)).grown (grown_setCell w6 ⟨B0, k, none⟩ (.slice A6 (m1 + 1) c6)) (fun q hq => by cases hq; exact HBS.out))
          have HG7 := hide (show ∃ hs, OwGH (w6.setCell ⟨B0, k, none⟩ (.slice A6 (m1 + 1) c6)) w.heap.size (w6.setCell ⟨B0, k, none⟩ (.slice A6 (m1 + 1) c6)).heap.size (some ⟨B0, 0, none⟩) n n hs (midL l k (m1 + 1)) from ⟨_, by
            have e9 : (w6.setCell ⟨B0, k, none⟩ (.slice A6 (m1 + 1) c6)).heap.size = w6.heap.size := by simp [World.setCell]
            rw [e9]
            exact HP.out⟩)
          go_roundw
          case rel => exact ⟨m1 + 1, by omega, by go_num, HG7, HE7⟩
          case measure => (simp [intOf] <;> omega)
        · have hje : j = n := by omega
          have HGN := hide (show ∃ hs, OwGH wr w.heap.size wr.heap.size (some ⟨B0, 0, none⟩) n n hs (midL l (k + 1) 0) by rw [← midL_next, HL.out, ← hje]; exact hje ▸ HGj.out)
          have hji : ¬ (j : Int) < (n : Int) := by omega
          clear hje
          go_wp2
          go_roundw
          case rel => exact ⟨k + 1, by omega, by go_num, HGN, HEj⟩
          case measure => (simp [intOf] <;> omega)
    · have hke : k = n := by omega
      have HGN := hide (show OwG wb w.heap.size wb.heap.size (some ⟨B0, 0, none⟩) n n (lineFar l) by
        have h1 := HG.out
        rw [hke, ← HL.out, midL_end] at h1
        rw [HL.out] at h1
        exact h1)
      have hki : ¬ (k : Int) < (n : Int) := by omega
      clear hke
      go_wp2
      go_ret
      exact RetG.mk rfl HGN.out HER.out

end Go.Proofs.Ytbaljgdepicigaa
