/-
  The laws on single and double elimination.
-/
import Derived.Laws.ShiftsVar
import Derived.Deep.RegionHeld3
import Derived.Test.YtkfijamaakjifaaBase
import Derived.Test.YtkfijamaakjifaaMathA
import Derived.Test.YtkfijamaakjifaaMathD
import Derived.Test.YtkfijamaakjifaaLib
import Derived.Test.YtkfijamaakjifaaAid
import Derived.Test.YtkfijamaakjifaaStep
import Derived.Test.YtkfijamaakjifaaGrid
import Derived.Test.YtkfijamaakjifaaLibF
import Derived.Test.YtkfijamaakjifaaLad
import Derived.Test.YtkfijamaakjifaaMathB
import Derived.Test.YtkfijamaakjifaaMathU
import Derived.Test.YtkfijamaakjifaaMathW
import Derived.Test.YtkfijamaakjifaaMathZ
import Derived.Test.YtkfijamaakjifaaMathY
import Derived.Test.YtkfijamaakjifaaPop
import Derived.Test.YtkfijamaakjifaaMathG
import Derived.Test.YtkfijamaakjifaaMathX
import Derived.Test.YtkfijamaakjifaaDblA
import Derived.Test.YtkfijamaakjifaaTour
import Derived.Test.YtkfijamaakjifaaTourB
import Derived.Test.YtkfijamaakjifaaDblB
import Derived.Test.YtkfijamaakjifaaDblD
import Derived.Test.YtkfijamaakjifaaDblC
import Derived.Test.YtkfijamaakjifaaDblE
import Derived.Test.YtkfijamaakjifaaDblF
import Derived.Test.YtkfijamaakjifaaDblG
namespace Go.Proofs.Ytkfijamaakjifaa
open Go.RowKit
set_option linter.unusedVariables false

-- bulk words
theorem bulk_pairs {rows : List (List Int)} {m : Nat} (hl : rows.length ≤ m) (h : ∀ r ∈ rows, r.length ≤ 2) : bulk rows ≤ 3 * m ∧ tot rows ≤ 2 * m := by
  have h1 : tot rows ≤ 2 * rows.length := by
    clear hl
    induction rows with
    | nil => simp [tot]
    | cons r rs ih =>
      have h2 := h r (by simp)
      have h3 := ih fun x hx => h x (by simp [hx])
      simp only [tot, List.length_cons]
      omega
  unfold bulk
  omega
theorem stS_two (xs o : List Int) (j : Nat) : ∀ r ∈ (stS xs o j).g, r.length ≤ 2 := by
  induction j with
  | zero => intro r hr; cases hr
  | succ j ih =>
    intro r hr
    simp only [stS] at hr
    rcases List.mem_append.1 hr with hr | hr
    · exact ih r hr
    · simp at hr; subst hr; simp [meetG]
theorem single_bulk (s : Int) (xs : List Int) : tot (singleOf s xs) ≤ 16 := by
  unfold singleOf
  split
  · rename_i h
    have hz := tourOk_size h
    have h2 := stS_len xs (upto xs.length) (j := xs.length - 1) (by rw [upto_len]; omega)
    refine (bulk_pairs (m := 8) ?_ ?_).2
    · unfold singleG; rw [upto_len]; omega
    · unfold singleG; exact stS_two _ _ _
  · simp [tot]
-- bulk of double
theorem stD_two (xs o : List Int) (j : Nat) : ∀ r ∈ (stD xs o j).g, r.length ≤ 2 := by
  induction j with
  | zero => intro r hr; cases hr
  | succ j ih =>
    intro r hr
    obtain ⟨u, v, hg, _⟩ := step_game xs (stD xs o j)
    have hr2 : r ∈ (stepD xs (stD xs o j)).g := hr
    rw [hg] at hr2
    rcases List.mem_append.1 hr2 with hr2 | hr2
    · exact ih r hr2
    · simp at hr2; subst hr2; simp
theorem double_bulk (xs o : List Int) (h : o.length ≤ 8) : tot (doubleG xs o) ≤ 32 :=
  (bulk_pairs (rows := doubleG xs o) (m := 16) (by rw [doubleG_len]; have := lenD_le xs o; omega) (fun r hr => stD_two xs o (lenD xs o) r hr)).2
theorem games_bulk (s : Int) (xs : List Int) : tot (gamesOf s xs) ≤ 32 := by
  unfold gamesOf
  split
  · rename_i h
    have hz := tourOk_size h
    exact double_bulk _ _ (by rw [upto_len]; omega)
  · simp [tot]
-- bulk of an order
theorem order_bulk (s : Int) (xs o : List Int) : tot (orderG s xs o) ≤ 32 := by
  unfold orderG
  split
  · rename_i h
    have hz := tourOk_size h.1
    exact double_bulk _ _ (by have := h.2.1; omega)
  · simp [tot]
-- law SingleGames
theorem law_SingleGames (s0 : Int) (A0 : Option Addr) (n0 c0 : Nat) (xs0 : List Int) (w : World) (hi0 : I64 s0) (h0 : Ints w A0 n0 c0 xs0) :
    Calls Try.prog 3 #[.agg #[.int .i64 s0, .slice A0 n0 c0]] w fun e w' => e = .returned (.bool true) ∧ Ext w w' := by
  have hl0 := h0.len; subst hl0
  have HI0 := hide h0; clear h0
  by_cases hs0 : (xs0.length : Int) ≤ 1048576
  · skip
    have hb0 : xs0.length ≤ 1048576 := by omega
    have hbt := single_bulk s0 xs0
    go_enter Try.func3, Try.ntmps3
    go_wp2_with fail
    obtain ⟨w1, hW⟩ : ∃ W : World, W = w.alloc (.cells #[.int .i64 s0, .slice A0 xs0.length c0] 24) := ⟨_, rfl⟩
    rw [← hW]
    have hE : Ext w w1 := by rw [hW]; exact Ext.one _ _
    have Cb0 : w1.cell? ⟨w.heap.size, 0, none⟩ = some (.int .i64 s0) := by rw [hW]; simp
    have Cb1 : w1.cell? ⟨w.heap.size, 1, none⟩ = some (.slice A0 xs0.length c0) := by rw [hW]; simp
    have hzq1 : w.heap.size + 1 ≤ w1.heap.size := by rw [hW]; simp
    clear hW
    have hz1 := hE.size
    have HE := hide hE
    clear hE
    have HSZ := hide (szLeft_yes (n := xs0.length) (left := 1048576) (by omega))
    go_wp2_with fail
    refine (szTour_any _ _ _ _ _ _ (by have := HI0.out.le; have := HI0.out.max; omega) (by omega) (by omega)).mono ?_; rw [HSZ.out]; rintro e w2 ⟨rfl, hE⟩
    replace Cb0 := hE.get Cb0; replace Cb1 := hE.get Cb1
    have hz2 := hE.size
    replace HE := hide (HE.out.trans hE)
    clear hE
    clear HSZ
    go_wp2_with fail
    refine (toTour_any s0 _ _ _ xs0 _ (HI0.out.ext HE.out) (by omega)).mono ?_; rintro e w3 ⟨At1, ct1, rfl, ho, hE⟩
    replace Cb0 := hE.get Cb0; replace Cb1 := hE.get Cb1
    have hz3 := hE.size
    replace HE := hide (HE.out.trans hE)
    clear hE
    have HOt1 := hide (InI.mk_ ho); clear ho
    go_wp2_with fail
    refine (sSingle_any s0 _ _ _ xs0 _ HOt1.out.ints).mono ?_; rintro e w4 ⟨Aw0, cw0, rfl, ho0, hE⟩
    replace HOt1 := hide (HOt1.out.ext hE)
    replace Cb0 := hE.get Cb0; replace Cb1 := hE.get Cb1
    have hz4 := hE.size
    replace HE := hide (HE.out.trans hE)
    clear hE
    have HOw0 := hide ho0; clear ho0
    go_wp2_with fail
    refine (toTour_any s0 _ _ _ xs0 _ (HI0.out.ext HE.out) (by omega)).mono ?_; rintro e w5 ⟨Ax0, cx0, rfl, ho, hE⟩
    replace HOt1 := hide (HOt1.out.ext hE)
    replace HOw0 := hide (HOw0.out.ext hE)
    replace Cb0 := hE.get Cb0; replace Cb1 := hE.get Cb1
    have hz5 := hE.size
    replace HE := hide (HE.out.trans hE)
    clear hE
    have HOx0 := hide (InI.mk_ ho); clear ho
    go_wp2_with fail
    obtain ⟨w6, hW⟩ : ∃ W : World, W = w5.alloc (.cells #[.int .i64 s0, .slice Ax0 xs0.length cx0] 28) := ⟨_, rfl⟩
    rw [← hW]
    have hE : Ext w5 w6 := by rw [hW]; exact Ext.one _ _
    have Cx00 : w6.cell? ⟨w5.heap.size, 0, none⟩ = some (.int .i64 s0) := by rw [hW]; simp
    have Cx01 : w6.cell? ⟨w5.heap.size, 1, none⟩ = some (.slice Ax0 xs0.length cx0) := by rw [hW]; simp
    have hzq6 : w5.heap.size + 1 ≤ w6.heap.size := by rw [hW]; simp
    clear hW
    replace HOt1 := hide (HOt1.out.ext hE)
    replace HOw0 := hide (HOw0.out.ext hE)
    replace HOx0 := hide (HOx0.out.ext hE)
    replace Cb0 := hE.get Cb0; replace Cb1 := hE.get Cb1
    have hz6 := hE.size
    replace HE := hide (HE.out.trans hE)
    clear hE
    go_wp2_with fail
    refine (iSingle_any s0 _ _ _ xs0 _ HOx0.out.ints).mono ?_; rintro e w7 ⟨Ag0, cg0, rfl, ho0, hE⟩
    replace HOt1 := hide (HOt1.out.ext hE)
    replace HOw0 := hide (HOw0.out.ext hE)
    replace HOx0 := hide (HOx0.out.ext hE)
    replace Cb0 := hE.get Cb0; replace Cb1 := hE.get Cb1
    replace Cx00 := hE.get Cx00; replace Cx01 := hE.get Cx01
    have hz7 := hE.size
    replace HE := hide (HE.out.trans hE)
    clear hE
    have HOg0 := hide ho0; clear ho0
    go_wp2_with fail
    refine (eqIntSS_any _ _ _ (singleOf s0 xs0) _ _ _ (singleOf s0 xs0) _ HOg0.out.grid HOw0.out.grid).mono ?_; rintro e w8 ⟨rfl, hE⟩
    replace HOt1 := hide (HOt1.out.ext hE)
    replace HOw0 := hide (HOw0.out.ext hE)
    replace HOx0 := hide (HOx0.out.ext hE)
    replace HOg0 := hide (HOg0.out.ext hE)
    replace Cb0 := hE.get Cb0; replace Cb1 := hE.get Cb1
    replace Cx00 := hE.get Cx00; replace Cx01 := hE.get Cx01
    have hz8 := hE.size
    replace HE := hide (HE.out.trans hE)
    clear hE
    go_wp2_with fail
    go_region_held3 (fun w' => w'.cell? ⟨w.heap.size, 0, none⟩ = some (.int .i64 s0) ∧ w'.cell? ⟨w.heap.size, 1, none⟩ = some (.slice A0 xs0.length c0) ∧ w'.cell? ⟨w5.heap.size, 0, none⟩ = some (.int .i64 s0) ∧ w'.cell? ⟨w5.heap.size, 1, none⟩ = some (.slice Ax0 xs0.length cx0))
      (first | exact ⟨Cb0, Cb1, Cx00, Cx01⟩ | exact ⟨hEa.get Cb0, hEa.get Cb1, hEa.get Cx00, hEa.get Cx01⟩ | exact ⟨hEb.get (hEa.get Cb0), hEb.get (hEa.get Cb1), hEb.get (hEa.get Cx00), hEb.get (hEa.get Cx01)⟩)
      (first | (go_at_call 15; refine (toTour_any s0 _ _ _ xs0 _ (HI0.out.ext HE.out.drew) (by omega)).mono ?_; rintro e w9 ⟨At, ct, rfl, ho, hEa⟩) | (go_at_call 18; refine (eqTour_any _ _ _ _ (xs0) _ _ _ _ xs0 _ (HOx0.out.ints.ext ((Ext.refl _).drew.trans hEa)) ho.ints).mono ?_; rintro e w10 ⟨rfl, hEb⟩))
    clear ho
    have hE : Ext w8 w9 := (Ext.refl _).drew.trans hEa
    clear hEa
    replace HOt1 := hide (HOt1.out.ext hE)
    replace HOw0 := hide (HOw0.out.ext hE)
    replace HOx0 := hide (HOx0.out.ext hE)
    replace HOg0 := hide (HOg0.out.ext hE)
    replace Cb0 := hE.get Cb0; replace Cb1 := hE.get Cb1
    replace Cx00 := hE.get Cx00; replace Cx01 := hE.get Cx01
    have hz9 := hE.size
    replace HE := hide (HE.out.trans hE)
    clear hE
    replace HOt1 := hide (HOt1.out.ext hEb)
    replace HOw0 := hide (HOw0.out.ext hEb)
    replace HOx0 := hide (HOx0.out.ext hEb)
    replace HOg0 := hide (HOg0.out.ext hEb)
    replace Cb0 := hEb.get Cb0; replace Cb1 := hEb.get Cb1
    replace Cx00 := hEb.get Cx00; replace Cx01 := hEb.get Cx01
    have hz10 := hEb.size
    replace HE := hide (HE.out.trans hEb)
    clear hEb
    go_wp2_with fail
    refine (markTour_in _ _ _ _ (xs0) _ _ HOx0.out (by omega) (by omega)).mono ?_; rintro e w11 ⟨rfl, ho, hg⟩
    have hz11 := hg.size
    replace HOt1 := hide (HOt1.out.only hg (by omega))
    replace HOw0 := hide (HOw0.out.only hg (by omega))
    replace HOg0 := hide (HOg0.out.only hg (by omega))
    replace HE := hide (HE.out.only hg (by omega))
    replace Cb0 := hg.get Cb0 (by omega); replace Cb1 := hg.get Cb1 (by omega)
    replace Cx00 := hg.get Cx00 (by omega); replace Cx01 := hg.get Cx01 (by omega)
    replace HOx0 := hide ho; clear ho hg
    go_wp2_with fail
    refine (eqIntSS_any _ _ _ (singleOf s0 xs0) _ _ _ (singleOf s0 xs0) _ HOg0.out.grid HOw0.out.grid).mono ?_; rintro e w12 ⟨rfl, hE⟩
    replace HOt1 := hide (HOt1.out.ext hE)
    replace HOw0 := hide (HOw0.out.ext hE)
    replace HOx0 := hide (HOx0.out.ext hE)
    replace HOg0 := hide (HOg0.out.ext hE)
    replace Cb0 := hE.get Cb0; replace Cb1 := hE.get Cb1
    replace Cx00 := hE.get Cx00; replace Cx01 := hE.get Cx01
    have hz12 := hE.size
    replace HE := hide (HE.out.trans hE)
    clear hE
    go_wp2_with fail
    refine (markIntSS_in _ _ _ (singleOf s0 xs0) _ _ HOg0.out (by omega) (by omega)).mono ?_; rintro e w13 ⟨rfl, ho, hg⟩
    have hz13 := hg.size
    replace HOt1 := hide (HOt1.out.only hg (by omega))
    replace HOw0 := hide (HOw0.out.only hg (by omega))
    replace HOx0 := hide (HOx0.out.only hg (by omega))
    replace HE := hide (HE.out.only hg (by omega))
    replace Cb0 := hg.get Cb0 (by omega); replace Cb1 := hg.get Cb1 (by omega)
    replace Cx00 := hg.get Cx00 (by omega); replace Cx01 := hg.get Cx01 (by omega)
    replace HOg0 := hide ho; clear ho hg
    go_wp2_with fail
    refine (heldIntSS_any _ _ _ _ _ _ HOg0.out.grid (by omega) (by omega)).mono ?_; rintro e w' ⟨rfl, rfl⟩
    go_wp2_with fail
    refine (toTour_any s0 _ _ _ xs0 _ (HI0.out.ext HE.out) (by omega)).mono ?_; rintro e w14 ⟨At3, ct3, rfl, ho, hE⟩
    replace HOt1 := hide (HOt1.out.ext hE)
    replace HOw0 := hide (HOw0.out.ext hE)
    replace HOx0 := hide (HOx0.out.ext hE)
    replace HOg0 := hide (HOg0.out.ext hE)
    replace Cb0 := hE.get Cb0; replace Cb1 := hE.get Cb1
    replace Cx00 := hE.get Cx00; replace Cx01 := hE.get Cx01
    have hz14 := hE.size
    replace HE := hide (HE.out.trans hE)
    clear hE
    have HOt3 := hide (InI.mk_ ho); clear ho
    go_wp2_with fail
    refine (iSingle_any s0 _ _ _ xs0 _ HOt3.out.ints).mono ?_; rintro e w15 ⟨Ah0, ch0, rfl, ho0, hE⟩
    replace HOt1 := hide (HOt1.out.ext hE)
    replace HOw0 := hide (HOw0.out.ext hE)
    replace HOx0 := hide (HOx0.out.ext hE)
    replace HOg0 := hide (HOg0.out.ext hE)
    replace HOt3 := hide (HOt3.out.ext hE)
    replace Cb0 := hE.get Cb0; replace Cb1 := hE.get Cb1
    replace Cx00 := hE.get Cx00; replace Cx01 := hE.get Cx01
    have hz15 := hE.size
    replace HE := hide (HE.out.trans hE)
    clear hE
    have HOh0 := hide ho0; clear ho0
    go_wp2_with fail
    refine (eqIntSS_any _ _ _ (singleOf s0 xs0) _ _ _ (singleOf s0 xs0) _ HOh0.out.grid HOw0.out.grid).mono ?_; rintro e w16 ⟨rfl, hE⟩
    replace HOt1 := hide (HOt1.out.ext hE)
    replace HOw0 := hide (HOw0.out.ext hE)
    replace HOx0 := hide (HOx0.out.ext hE)
    replace HOg0 := hide (HOg0.out.ext hE)
    replace HOt3 := hide (HOt3.out.ext hE)
    replace HOh0 := hide (HOh0.out.ext hE)
    replace Cb0 := hE.get Cb0; replace Cb1 := hE.get Cb1
    replace Cx00 := hE.get Cx00; replace Cx01 := hE.get Cx01
    have hz16 := hE.size
    replace HE := hide (HE.out.trans hE)
    clear hE
    go_wp2_with fail
    refine (heldIntSS_any _ _ _ _ _ _ HOg0.out.grid (by omega) (by omega)).mono ?_; rintro e w' ⟨rfl, rfl⟩
    go_wp2
    go_ret
    exact ⟨by first | rfl | simp, HE.out⟩
  · go_enter Try.func3, Try.ntmps3
    go_wp2_with fail
    obtain ⟨w1, hW⟩ : ∃ W : World, W = w.alloc (.cells #[.int .i64 s0, .slice A0 xs0.length c0] 24) := ⟨_, rfl⟩
    rw [← hW]
    have hE : Ext w w1 := by rw [hW]; exact Ext.one _ _
    have Cb0 : w1.cell? ⟨w.heap.size, 0, none⟩ = some (.int .i64 s0) := by rw [hW]; simp
    have Cb1 : w1.cell? ⟨w.heap.size, 1, none⟩ = some (.slice A0 xs0.length c0) := by rw [hW]; simp
    have hzq1 : w.heap.size + 1 ≤ w1.heap.size := by rw [hW]; simp
    clear hW
    have hz1 := hE.size
    have HE := hide hE
    clear hE
    have HSZ := hide (szLeft_no (n := xs0.length) (left := 1048576) (by omega))
    go_wp2_with fail
    refine (szTour_any _ _ _ _ _ _ (by have := HI0.out.le; have := HI0.out.max; omega) (by omega) (by omega)).mono ?_; rw [HSZ.out]; rintro e w2 ⟨rfl, hE⟩
    replace Cb0 := hE.get Cb0; replace Cb1 := hE.get Cb1
    have hz2 := hE.size
    replace HE := hide (HE.out.trans hE)
    clear hE
    clear HSZ
    go_wp2
    go_ret
    exact ⟨rfl, HE.out⟩
-- law DoubleGames
theorem law_DoubleGames (s0 : Int) (A0 : Option Addr) (n0 c0 : Nat) (xs0 : List Int) (w : World) (hi0 : I64 s0) (h0 : Ints w A0 n0 c0 xs0) :
    Calls Try.prog 9 #[.agg #[.int .i64 s0, .slice A0 n0 c0]] w fun e w' => e = .returned (.bool true) ∧ Ext w w' := by
  have hl0 := h0.len; subst hl0
  have HI0 := hide h0; clear h0
  by_cases hs0 : (xs0.length : Int) ≤ 1048576
  · skip
    have hb0 : xs0.length ≤ 1048576 := by omega
    have hbt := games_bulk s0 xs0
    go_enter Try.func9, Try.ntmps9
    go_wp2_with fail
    obtain ⟨w1, hW⟩ : ∃ W : World, W = w.alloc (.cells #[.int .i64 s0, .slice A0 xs0.length c0] 24) := ⟨_, rfl⟩
    rw [← hW]
    have hE : Ext w w1 := by rw [hW]; exact Ext.one _ _
    have Cb0 : w1.cell? ⟨w.heap.size, 0, none⟩ = some (.int .i64 s0) := by rw [hW]; simp
    have Cb1 : w1.cell? ⟨w.heap.size, 1, none⟩ = some (.slice A0 xs0.length c0) := by rw [hW]; simp
    have hzq1 : w.heap.size + 1 ≤ w1.heap.size := by rw [hW]; simp
    clear hW
    have hz1 := hE.size
    have HE := hide hE
    clear hE
    have HSZ := hide (szLeft_yes (n := xs0.length) (left := 1048576) (by omega))
    go_wp2_with fail
    refine (szTour_any _ _ _ _ _ _ (by have := HI0.out.le; have := HI0.out.max; omega) (by omega) (by omega)).mono ?_; rw [HSZ.out]; rintro e w2 ⟨rfl, hE⟩
    replace Cb0 := hE.get Cb0; replace Cb1 := hE.get Cb1
    have hz2 := hE.size
    replace HE := hide (HE.out.trans hE)
    clear hE
    clear HSZ
    go_wp2_with fail
    refine (toTour_any s0 _ _ _ xs0 _ (HI0.out.ext HE.out) (by omega)).mono ?_; rintro e w3 ⟨At1, ct1, rfl, ho, hE⟩
    replace Cb0 := hE.get Cb0; replace Cb1 := hE.get Cb1
    have hz3 := hE.size
    replace HE := hide (HE.out.trans hE)
    clear hE
    have HOt1 := hide (InI.mk_ ho); clear ho
    go_wp2_with fail
    refine (sDouble_any s0 _ _ _ xs0 _ HOt1.out.ints).mono ?_; rintro e w4 ⟨Aw0, cw0, rfl, ho0, hE⟩
    replace HOt1 := hide (HOt1.out.ext hE)
    replace Cb0 := hE.get Cb0; replace Cb1 := hE.get Cb1
    have hz4 := hE.size
    replace HE := hide (HE.out.trans hE)
    clear hE
    have HOw0 := hide ho0; clear ho0
    go_wp2_with fail
    refine (toTour_any s0 _ _ _ xs0 _ (HI0.out.ext HE.out) (by omega)).mono ?_; rintro e w5 ⟨Ax0, cx0, rfl, ho, hE⟩
    replace HOt1 := hide (HOt1.out.ext hE)
    replace HOw0 := hide (HOw0.out.ext hE)
    replace Cb0 := hE.get Cb0; replace Cb1 := hE.get Cb1
    have hz5 := hE.size
    replace HE := hide (HE.out.trans hE)
    clear hE
    have HOx0 := hide (InI.mk_ ho); clear ho
    go_wp2_with fail
    obtain ⟨w6, hW⟩ : ∃ W : World, W = w5.alloc (.cells #[.int .i64 s0, .slice Ax0 xs0.length cx0] 28) := ⟨_, rfl⟩
    rw [← hW]
    have hE : Ext w5 w6 := by rw [hW]; exact Ext.one _ _
    have Cx00 : w6.cell? ⟨w5.heap.size, 0, none⟩ = some (.int .i64 s0) := by rw [hW]; simp
    have Cx01 : w6.cell? ⟨w5.heap.size, 1, none⟩ = some (.slice Ax0 xs0.length cx0) := by rw [hW]; simp
    have hzq6 : w5.heap.size + 1 ≤ w6.heap.size := by rw [hW]; simp
    clear hW
    replace HOt1 := hide (HOt1.out.ext hE)
    replace HOw0 := hide (HOw0.out.ext hE)
    replace HOx0 := hide (HOx0.out.ext hE)
    replace Cb0 := hE.get Cb0; replace Cb1 := hE.get Cb1
    have hz6 := hE.size
    replace HE := hide (HE.out.trans hE)
    clear hE
    go_wp2_with fail
    refine (iDouble_any s0 _ _ _ xs0 _ HOx0.out.ints).mono ?_; rintro e w7 ⟨Ag0, cg0, rfl, ho0, hE⟩
    replace HOt1 := hide (HOt1.out.ext hE)
    replace HOw0 := hide (HOw0.out.ext hE)
    replace HOx0 := hide (HOx0.out.ext hE)
    replace Cb0 := hE.get Cb0; replace Cb1 := hE.get Cb1
    replace Cx00 := hE.get Cx00; replace Cx01 := hE.get Cx01
    have hz7 := hE.size
    replace HE := hide (HE.out.trans hE)
    clear hE
    have HOg0 := hide ho0; clear ho0
    go_wp2_with fail
    refine (eqIntSS_any _ _ _ (gamesOf s0 xs0) _ _ _ (gamesOf s0 xs0) _ HOg0.out.grid HOw0.out.grid).mono ?_; rintro e w8 ⟨rfl, hE⟩
    replace HOt1 := hide (HOt1.out.ext hE)
    replace HOw0 := hide (HOw0.out.ext hE)
    replace HOx0 := hide (HOx0.out.ext hE)
    replace HOg0 := hide (HOg0.out.ext hE)
    replace Cb0 := hE.get Cb0; replace Cb1 := hE.get Cb1
    replace Cx00 := hE.get Cx00; replace Cx01 := hE.get Cx01
    have hz8 := hE.size
    replace HE := hide (HE.out.trans hE)
    clear hE
    go_wp2_with fail
    go_region_held3 (fun w' => w'.cell? ⟨w.heap.size, 0, none⟩ = some (.int .i64 s0) ∧ w'.cell? ⟨w.heap.size, 1, none⟩ = some (.slice A0 xs0.length c0) ∧ w'.cell? ⟨w5.heap.size, 0, none⟩ = some (.int .i64 s0) ∧ w'.cell? ⟨w5.heap.size, 1, none⟩ = some (.slice Ax0 xs0.length cx0))
      (first | exact ⟨Cb0, Cb1, Cx00, Cx01⟩ | exact ⟨hEa.get Cb0, hEa.get Cb1, hEa.get Cx00, hEa.get Cx01⟩ | exact ⟨hEb.get (hEa.get Cb0), hEb.get (hEa.get Cb1), hEb.get (hEa.get Cx00), hEb.get (hEa.get Cx01)⟩)
      (first | (go_at_call 15; refine (toTour_any s0 _ _ _ xs0 _ (HI0.out.ext HE.out.drew) (by omega)).mono ?_; rintro e w9 ⟨At, ct, rfl, ho, hEa⟩) | (go_at_call 18; refine (eqTour_any _ _ _ _ (xs0) _ _ _ _ xs0 _ (HOx0.out.ints.ext ((Ext.refl _).drew.trans hEa)) ho.ints).mono ?_; rintro e w10 ⟨rfl, hEb⟩))
    clear ho
    have hE : Ext w8 w9 := (Ext.refl _).drew.trans hEa
    clear hEa
    replace HOt1 := hide (HOt1.out.ext hE)
    replace HOw0 := hide (HOw0.out.ext hE)
    replace HOx0 := hide (HOx0.out.ext hE)
    replace HOg0 := hide (HOg0.out.ext hE)
    replace Cb0 := hE.get Cb0; replace Cb1 := hE.get Cb1
    replace Cx00 := hE.get Cx00; replace Cx01 := hE.get Cx01
    have hz9 := hE.size
    replace HE := hide (HE.out.trans hE)
    clear hE
    replace HOt1 := hide (HOt1.out.ext hEb)
    replace HOw0 := hide (HOw0.out.ext hEb)
    replace HOx0 := hide (HOx0.out.ext hEb)
    replace HOg0 := hide (HOg0.out.ext hEb)
    replace Cb0 := hEb.get Cb0; replace Cb1 := hEb.get Cb1
    replace Cx00 := hEb.get Cx00; replace Cx01 := hEb.get Cx01
    have hz10 := hEb.size
    replace HE := hide (HE.out.trans hEb)
    clear hEb
    go_wp2_with fail
    refine (markTour_in _ _ _ _ (xs0) _ _ HOx0.out (by omega) (by omega)).mono ?_; rintro e w11 ⟨rfl, ho, hg⟩
    have hz11 := hg.size
    replace HOt1 := hide (HOt1.out.only hg (by omega))
    replace HOw0 := hide (HOw0.out.only hg (by omega))
    replace HOg0 := hide (HOg0.out.only hg (by omega))
    replace HE := hide (HE.out.only hg (by omega))
    replace Cb0 := hg.get Cb0 (by omega); replace Cb1 := hg.get Cb1 (by omega)
    replace Cx00 := hg.get Cx00 (by omega); replace Cx01 := hg.get Cx01 (by omega)
    replace HOx0 := hide ho; clear ho hg
    go_wp2_with fail
    refine (eqIntSS_any _ _ _ (gamesOf s0 xs0) _ _ _ (gamesOf s0 xs0) _ HOg0.out.grid HOw0.out.grid).mono ?_; rintro e w12 ⟨rfl, hE⟩
    replace HOt1 := hide (HOt1.out.ext hE)
    replace HOw0 := hide (HOw0.out.ext hE)
    replace HOx0 := hide (HOx0.out.ext hE)
    replace HOg0 := hide (HOg0.out.ext hE)
    replace Cb0 := hE.get Cb0; replace Cb1 := hE.get Cb1
    replace Cx00 := hE.get Cx00; replace Cx01 := hE.get Cx01
    have hz12 := hE.size
    replace HE := hide (HE.out.trans hE)
    clear hE
    go_wp2_with fail
    refine (markIntSS_in _ _ _ (gamesOf s0 xs0) _ _ HOg0.out (by omega) (by omega)).mono ?_; rintro e w13 ⟨rfl, ho, hg⟩
    have hz13 := hg.size
    replace HOt1 := hide (HOt1.out.only hg (by omega))
    replace HOw0 := hide (HOw0.out.only hg (by omega))
    replace HOx0 := hide (HOx0.out.only hg (by omega))
    replace HE := hide (HE.out.only hg (by omega))
    replace Cb0 := hg.get Cb0 (by omega); replace Cb1 := hg.get Cb1 (by omega)
    replace Cx00 := hg.get Cx00 (by omega); replace Cx01 := hg.get Cx01 (by omega)
    replace HOg0 := hide ho; clear ho hg
    go_wp2_with fail
    refine (heldIntSS_any _ _ _ _ _ _ HOg0.out.grid (by omega) (by omega)).mono ?_; rintro e w' ⟨rfl, rfl⟩
    go_wp2_with fail
    refine (toTour_any s0 _ _ _ xs0 _ (HI0.out.ext HE.out) (by omega)).mono ?_; rintro e w14 ⟨At3, ct3, rfl, ho, hE⟩
    replace HOt1 := hide (HOt1.out.ext hE)
    replace HOw0 := hide (HOw0.out.ext hE)
    replace HOx0 := hide (HOx0.out.ext hE)
    replace HOg0 := hide (HOg0.out.ext hE)
    replace Cb0 := hE.get Cb0; replace Cb1 := hE.get Cb1
    replace Cx00 := hE.get Cx00; replace Cx01 := hE.get Cx01
    have hz14 := hE.size
    replace HE := hide (HE.out.trans hE)
    clear hE
    have HOt3 := hide (InI.mk_ ho); clear ho
    go_wp2_with fail
    refine (iDouble_any s0 _ _ _ xs0 _ HOt3.out.ints).mono ?_; rintro e w15 ⟨Ah0, ch0, rfl, ho0, hE⟩
    replace HOt1 := hide (HOt1.out.ext hE)
    replace HOw0 := hide (HOw0.out.ext hE)
    replace HOx0 := hide (HOx0.out.ext hE)
    replace HOg0 := hide (HOg0.out.ext hE)
    replace HOt3 := hide (HOt3.out.ext hE)
    replace Cb0 := hE.get Cb0; replace Cb1 := hE.get Cb1
    replace Cx00 := hE.get Cx00; replace Cx01 := hE.get Cx01
    have hz15 := hE.size
    replace HE := hide (HE.out.trans hE)
    clear hE
    have HOh0 := hide ho0; clear ho0
    go_wp2_with fail
    refine (eqIntSS_any _ _ _ (gamesOf s0 xs0) _ _ _ (gamesOf s0 xs0) _ HOh0.out.grid HOw0.out.grid).mono ?_; rintro e w16 ⟨rfl, hE⟩
    replace HOt1 := hide (HOt1.out.ext hE)
    replace HOw0 := hide (HOw0.out.ext hE)
    replace HOx0 := hide (HOx0.out.ext hE)
    replace HOg0 := hide (HOg0.out.ext hE)
    replace HOt3 := hide (HOt3.out.ext hE)
    replace HOh0 := hide (HOh0.out.ext hE)
    replace Cb0 := hE.get Cb0; replace Cb1 := hE.get Cb1
    replace Cx00 := hE.get Cx00; replace Cx01 := hE.get Cx01
    have hz16 := hE.size
    replace HE := hide (HE.out.trans hE)
    clear hE
    go_wp2_with fail
    refine (heldIntSS_any _ _ _ _ _ _ HOg0.out.grid (by omega) (by omega)).mono ?_; rintro e w' ⟨rfl, rfl⟩
    go_wp2
    go_ret
    exact ⟨by first | rfl | simp, HE.out⟩
  · go_enter Try.func9, Try.ntmps9
    go_wp2_with fail
    obtain ⟨w1, hW⟩ : ∃ W : World, W = w.alloc (.cells #[.int .i64 s0, .slice A0 xs0.length c0] 24) := ⟨_, rfl⟩
    rw [← hW]
    have hE : Ext w w1 := by rw [hW]; exact Ext.one _ _
    have Cb0 : w1.cell? ⟨w.heap.size, 0, none⟩ = some (.int .i64 s0) := by rw [hW]; simp
    have Cb1 : w1.cell? ⟨w.heap.size, 1, none⟩ = some (.slice A0 xs0.length c0) := by rw [hW]; simp
    have hzq1 : w.heap.size + 1 ≤ w1.heap.size := by rw [hW]; simp
    clear hW
    have hz1 := hE.size
    have HE := hide hE
    clear hE
    have HSZ := hide (szLeft_no (n := xs0.length) (left := 1048576) (by omega))
    go_wp2_with fail
    refine (szTour_any _ _ _ _ _ _ (by have := HI0.out.le; have := HI0.out.max; omega) (by omega) (by omega)).mono ?_; rw [HSZ.out]; rintro e w2 ⟨rfl, hE⟩
    replace Cb0 := hE.get Cb0; replace Cb1 := hE.get Cb1
    have hz2 := hE.size
    replace HE := hide (HE.out.trans hE)
    clear hE
    clear HSZ
    go_wp2
    go_ret
    exact ⟨rfl, HE.out⟩
-- law DoubleOrder
theorem law_DoubleOrder (s0 : Int) (A0 : Option Addr) (n0 c0 : Nat) (xs0 : List Int) (A1 : Option Addr) (n1 c1 : Nat) (xs1 : List Int) (w : World) (hi0 : I64 s0) (h0 : Ints w A0 n0 c0 xs0) (h1 : Ints w A1 n1 c1 xs1) :
    Calls Try.prog 10 #[.agg #[.int .i64 s0, .slice A0 n0 c0], .slice A1 n1 c1] w fun e w' => e = .returned (.bool true) ∧ Ext w w' := by
  have hl0 := h0.len; subst hl0
  have HI0 := hide h0; clear h0
  have hl1 := h1.len; subst hl1
  have HI1 := hide h1; clear h1
  by_cases hs1 : xs1.length ≤ 1048576
  · skip
    by_cases hs0 : (xs0.length : Int) ≤ 1048576
    · skip
      have hb0 : xs0.length ≤ 1048576 := by omega
      have hbt := order_bulk s0 xs0 xs1
      go_enter Try.func10, Try.ntmps10
      go_wp2_with fail
      obtain ⟨w1, hW⟩ : ∃ W : World, W = w.alloc (.cells #[.int .i64 s0, .slice A0 xs0.length c0] 24) := ⟨_, rfl⟩
      rw [← hW]
      have hE : Ext w w1 := by rw [hW]; exact Ext.one _ _
      have Cb0 : w1.cell? ⟨w.heap.size, 0, none⟩ = some (.int .i64 s0) := by rw [hW]; simp
      have Cb1 : w1.cell? ⟨w.heap.size, 1, none⟩ = some (.slice A0 xs0.length c0) := by rw [hW]; simp
      have hzq1 : w.heap.size + 1 ≤ w1.heap.size := by rw [hW]; simp
      clear hW
      have hz1 := hE.size
      have HE := hide hE
      clear hE
      have HSZ := hide (szLeft_yes (n := xs0.length) (left := 1048576) (by omega))
      go_wp2_with fail
      refine (szTour_any _ _ _ _ _ _ (by have := HI0.out.le; have := HI0.out.max; omega) (by omega) (by omega)).mono ?_; rw [HSZ.out]; rintro e w2 ⟨rfl, hE⟩
      replace Cb0 := hE.get Cb0; replace Cb1 := hE.get Cb1
      have hz2 := hE.size
      replace HE := hide (HE.out.trans hE)
      clear hE
      clear HSZ
      go_wp2_with fail
      refine (toTour_any s0 _ _ _ xs0 _ (HI0.out.ext HE.out) (by omega)).mono ?_; rintro e w3 ⟨At1, ct1, rfl, ho, hE⟩
      replace Cb0 := hE.get Cb0; replace Cb1 := hE.get Cb1
      have hz3 := hE.size
      replace HE := hide (HE.out.trans hE)
      clear hE
      have HOt1 := hide (InI.mk_ ho); clear ho
      go_wp2_with fail
      refine (toIntS_any _ _ _ xs1 _ (HI1.out.ext HE.out) (by omega)).mono ?_; rintro e w4 ⟨At2, ct2, rfl, ho, hE⟩
      replace HOt1 := hide (HOt1.out.ext hE)
      replace Cb0 := hE.get Cb0; replace Cb1 := hE.get Cb1
      have hz4 := hE.size
      replace HE := hide (HE.out.trans hE)
      clear hE
      have HOt2 := hide (InI.mk_ ho); clear ho
      go_wp2_with fail
      refine (sDoubleOrder_any s0 _ _ _ xs0 _ _ _ xs1 _ HOt1.out.ints HOt2.out.ints (by omega)).mono ?_; rintro e w5 ⟨Aw0, cw0, rfl, ho0, hE⟩
      replace HOt1 := hide (HOt1.out.ext hE)
      replace HOt2 := hide (HOt2.out.ext hE)
      replace Cb0 := hE.get Cb0; replace Cb1 := hE.get Cb1
      have hz5 := hE.size
      replace HE := hide (HE.out.trans hE)
      clear hE
      have HOw0 := hide ho0; clear ho0
      go_wp2_with fail
      refine (toTour_any s0 _ _ _ xs0 _ (HI0.out.ext HE.out) (by omega)).mono ?_; rintro e w6 ⟨Ax0, cx0, rfl, ho, hE⟩
      replace HOt1 := hide (HOt1.out.ext hE)
      replace HOt2 := hide (HOt2.out.ext hE)
      replace HOw0 := hide (HOw0.out.ext hE)
      replace Cb0 := hE.get Cb0; replace Cb1 := hE.get Cb1
      have hz6 := hE.size
      replace HE := hide (HE.out.trans hE)
      clear hE
      have HOx0 := hide (InI.mk_ ho); clear ho
      go_wp2_with fail
      obtain ⟨w7, hW⟩ : ∃ W : World, W = w6.alloc (.cells #[.int .i64 s0, .slice Ax0 xs0.length cx0] 28) := ⟨_, rfl⟩
      rw [← hW]
      have hE : Ext w6 w7 := by rw [hW]; exact Ext.one _ _
      have Cx00 : w7.cell? ⟨w6.heap.size, 0, none⟩ = some (.int .i64 s0) := by rw [hW]; simp
      have Cx01 : w7.cell? ⟨w6.heap.size, 1, none⟩ = some (.slice Ax0 xs0.length cx0) := by rw [hW]; simp
      have hzq7 : w6.heap.size + 1 ≤ w7.heap.size := by rw [hW]; simp
      clear hW
      replace HOt1 := hide (HOt1.out.ext hE)
      replace HOt2 := hide (HOt2.out.ext hE)
      replace HOw0 := hide (HOw0.out.ext hE)
      replace HOx0 := hide (HOx0.out.ext hE)
      replace Cb0 := hE.get Cb0; replace Cb1 := hE.get Cb1
      have hz7 := hE.size
      replace HE := hide (HE.out.trans hE)
      clear hE
      go_wp2_with fail
      refine (toIntS_any _ _ _ xs1 _ (HI1.out.ext HE.out) (by omega)).mono ?_; rintro e w8 ⟨Ax1, cx1, rfl, ho, hE⟩
      replace HOt1 := hide (HOt1.out.ext hE)
      replace HOt2 := hide (HOt2.out.ext hE)
      replace HOw0 := hide (HOw0.out.ext hE)
      replace HOx0 := hide (HOx0.out.ext hE)
      replace Cb0 := hE.get Cb0; replace Cb1 := hE.get Cb1
      replace Cx00 := hE.get Cx00; replace Cx01 := hE.get Cx01
      have hz8 := hE.size
      replace HE := hide (HE.out.trans hE)
      clear hE
      have HOx1 := hide (InI.mk_ ho); clear ho
      go_wp2_with fail
      refine (iDoubleOrder_any s0 _ _ _ xs0 _ _ _ xs1 _ HOx0.out.ints HOx1.out.ints (by omega)).mono ?_; rintro e w9 ⟨Ag0, cg0, rfl, ho0, hE⟩
      replace HOt1 := hide (HOt1.out.ext hE)
      replace HOt2 := hide (HOt2.out.ext hE)
      replace HOw0 := hide (HOw0.out.ext hE)
      replace HOx0 := hide (HOx0.out.ext hE)
      replace HOx1 := hide (HOx1.out.ext hE)
      replace Cb0 := hE.get Cb0; replace Cb1 := hE.get Cb1
      replace Cx00 := hE.get Cx00; replace Cx01 := hE.get Cx01
      have hz9 := hE.size
      replace HE := hide (HE.out.trans hE)
      clear hE
      have HOg0 := hide ho0; clear ho0
      go_wp2_with fail
      refine (eqIntSS_any _ _ _ (orderG s0 xs0 xs1) _ _ _ (orderG s0 xs0 xs1) _ HOg0.out.grid HOw0.out.grid).mono ?_; rintro e w10 ⟨rfl, hE⟩
      replace HOt1 := hide (HOt1.out.ext hE)
      replace HOt2 := hide (HOt2.out.ext hE)
      replace HOw0 := hide (HOw0.out.ext hE)
      replace HOx0 := hide (HOx0.out.ext hE)
      replace HOx1 := hide (HOx1.out.ext hE)
      replace HOg0 := hide (HOg0.out.ext hE)
      replace Cb0 := hE.get Cb0; replace Cb1 := hE.get Cb1
      replace Cx00 := hE.get Cx00; replace Cx01 := hE.get Cx01
      have hz10 := hE.size
      replace HE := hide (HE.out.trans hE)
      clear hE
      go_wp2_with fail
      go_region_held3 (fun w' => w'.cell? ⟨w.heap.size, 0, none⟩ = some (.int .i64 s0) ∧ w'.cell? ⟨w.heap.size, 1, none⟩ = some (.slice A0 xs0.length c0) ∧ w'.cell? ⟨w6.heap.size, 0, none⟩ = some (.int .i64 s0) ∧ w'.cell? ⟨w6.heap.size, 1, none⟩ = some (.slice Ax0 xs0.length cx0))
        (first | exact ⟨Cb0, Cb1, Cx00, Cx01⟩ | exact ⟨hEa.get Cb0, hEa.get Cb1, hEa.get Cx00, hEa.get Cx01⟩ | exact ⟨hEb.get (hEa.get Cb0), hEb.get (hEa.get Cb1), hEb.get (hEa.get Cx00), hEb.get (hEa.get Cx01)⟩)
        (first | (go_at_call 15; refine (toTour_any s0 _ _ _ xs0 _ (HI0.out.ext HE.out.drew) (by omega)).mono ?_; rintro e w11 ⟨At, ct, rfl, ho, hEa⟩) | (go_at_call 18; refine (eqTour_any _ _ _ _ (xs0) _ _ _ _ xs0 _ (HOx0.out.ints.ext ((Ext.refl _).drew.trans hEa)) ho.ints).mono ?_; rintro e w12 ⟨rfl, hEb⟩))
      clear ho
      have hE : Ext w10 w11 := (Ext.refl _).drew.trans hEa
      clear hEa
      replace HOt1 := hide (HOt1.out.ext hE)
      replace HOt2 := hide (HOt2.out.ext hE)
      replace HOw0 := hide (HOw0.out.ext hE)
      replace HOx0 := hide (HOx0.out.ext hE)
      replace HOx1 := hide (HOx1.out.ext hE)
      replace HOg0 := hide (HOg0.out.ext hE)
      replace Cb0 := hE.get Cb0; replace Cb1 := hE.get Cb1
      replace Cx00 := hE.get Cx00; replace Cx01 := hE.get Cx01
      have hz11 := hE.size
      replace HE := hide (HE.out.trans hE)
      clear hE
      replace HOt1 := hide (HOt1.out.ext hEb)
      replace HOt2 := hide (HOt2.out.ext hEb)
      replace HOw0 := hide (HOw0.out.ext hEb)
      replace HOx0 := hide (HOx0.out.ext hEb)
      replace HOx1 := hide (HOx1.out.ext hEb)
      replace HOg0 := hide (HOg0.out.ext hEb)
      replace Cb0 := hEb.get Cb0; replace Cb1 := hEb.get Cb1
      replace Cx00 := hEb.get Cx00; replace Cx01 := hEb.get Cx01
      have hz12 := hEb.size
      replace HE := hide (HE.out.trans hEb)
      clear hEb
      go_wp2_with fail
      refine (toIntS_any _ _ _ xs1 _ (HI1.out.ext HE.out) (by omega)).mono ?_; rintro e w13 ⟨At5, ct5, rfl, ho, hE⟩
      replace HOt1 := hide (HOt1.out.ext hE)
      replace HOt2 := hide (HOt2.out.ext hE)
      replace HOw0 := hide (HOw0.out.ext hE)
      replace HOx0 := hide (HOx0.out.ext hE)
      replace HOx1 := hide (HOx1.out.ext hE)
      replace HOg0 := hide (HOg0.out.ext hE)
      replace Cb0 := hE.get Cb0; replace Cb1 := hE.get Cb1
      replace Cx00 := hE.get Cx00; replace Cx01 := hE.get Cx01
      have hz13 := hE.size
      replace HE := hide (HE.out.trans hE)
      clear hE
      have HOt5 := hide (InI.mk_ ho); clear ho
      go_wp2_with fail
      refine (eqIntS_any _ _ _ (xs1) _ _ _ (xs1) _ HOx1.out.ints HOt5.out.ints).mono ?_; rintro e w14 ⟨rfl, hE⟩
      replace HOt1 := hide (HOt1.out.ext hE)
      replace HOt2 := hide (HOt2.out.ext hE)
      replace HOw0 := hide (HOw0.out.ext hE)
      replace HOx0 := hide (HOx0.out.ext hE)
      replace HOx1 := hide (HOx1.out.ext hE)
      replace HOg0 := hide (HOg0.out.ext hE)
      replace HOt5 := hide (HOt5.out.ext hE)
      replace Cb0 := hE.get Cb0; replace Cb1 := hE.get Cb1
      replace Cx00 := hE.get Cx00; replace Cx01 := hE.get Cx01
      have hz14 := hE.size
      replace HE := hide (HE.out.trans hE)
      clear hE
      go_wp2_with fail
      refine (markTour_in _ _ _ _ (xs0) _ _ HOx0.out (by omega) (by omega)).mono ?_; rintro e w15 ⟨rfl, ho, hg⟩
      have hz15 := hg.size
      replace HOt1 := hide (HOt1.out.only hg (by omega))
      replace HOt2 := hide (HOt2.out.only hg (by omega))
      replace HOw0 := hide (HOw0.out.only hg (by omega))
      replace HOx1 := hide (HOx1.out.only hg (by omega))
      replace HOg0 := hide (HOg0.out.only hg (by omega))
      replace HOt5 := hide (HOt5.out.only hg (by omega))
      replace HE := hide (HE.out.only hg (by omega))
      replace Cb0 := hg.get Cb0 (by omega); replace Cb1 := hg.get Cb1 (by omega)
      replace Cx00 := hg.get Cx00 (by omega); replace Cx01 := hg.get Cx01 (by omega)
      replace HOx0 := hide ho; clear ho hg
      go_wp2_with fail
      refine (markIntS_in _ _ _ (xs1) _ _ HOx1.out (by omega) (by omega)).mono ?_; rintro e w16 ⟨rfl, ho, hg⟩
      have hz16 := hg.size
      replace HOt1 := hide (HOt1.out.only hg (by omega))
      replace HOt2 := hide (HOt2.out.only hg (by omega))
      replace HOw0 := hide (HOw0.out.only hg (by omega))
      replace HOx0 := hide (HOx0.out.only hg (by omega))
      replace HOg0 := hide (HOg0.out.only hg (by omega))
      replace HOt5 := hide (HOt5.out.only hg (by omega))
      replace HE := hide (HE.out.only hg (by omega))
      replace Cb0 := hg.get Cb0 (by omega); replace Cb1 := hg.get Cb1 (by omega)
      replace Cx00 := hg.get Cx00 (by omega); replace Cx01 := hg.get Cx01 (by omega)
      replace HOx1 := hide ho; clear ho hg
      go_wp2_with fail
      refine (eqIntSS_any _ _ _ (orderG s0 xs0 xs1) _ _ _ (orderG s0 xs0 xs1) _ HOg0.out.grid HOw0.out.grid).mono ?_; rintro e w17 ⟨rfl, hE⟩
      replace HOt1 := hide (HOt1.out.ext hE)
      replace HOt2 := hide (HOt2.out.ext hE)
      replace HOw0 := hide (HOw0.out.ext hE)
      replace HOx0 := hide (HOx0.out.ext hE)
      replace HOx1 := hide (HOx1.out.ext hE)
      replace HOg0 := hide (HOg0.out.ext hE)
      replace HOt5 := hide (HOt5.out.ext hE)
      replace Cb0 := hE.get Cb0; replace Cb1 := hE.get Cb1
      replace Cx00 := hE.get Cx00; replace Cx01 := hE.get Cx01
      have hz17 := hE.size
      replace HE := hide (HE.out.trans hE)
      clear hE
      go_wp2_with fail
      refine (markIntSS_in _ _ _ (orderG s0 xs0 xs1) _ _ HOg0.out (by omega) (by omega)).mono ?_; rintro e w18 ⟨rfl, ho, hg⟩
      have hz18 := hg.size
      replace HOt1 := hide (HOt1.out.only hg (by omega))
      replace HOt2 := hide (HOt2.out.only hg (by omega))
      replace HOw0 := hide (HOw0.out.only hg (by omega))
      replace HOx0 := hide (HOx0.out.only hg (by omega))
      replace HOx1 := hide (HOx1.out.only hg (by omega))
      replace HOt5 := hide (HOt5.out.only hg (by omega))
      replace HE := hide (HE.out.only hg (by omega))
      replace Cb0 := hg.get Cb0 (by omega); replace Cb1 := hg.get Cb1 (by omega)
      replace Cx00 := hg.get Cx00 (by omega); replace Cx01 := hg.get Cx01 (by omega)
      replace HOg0 := hide ho; clear ho hg
      go_wp2_with fail
      refine (heldIntSS_any _ _ _ _ _ _ HOg0.out.grid (by omega) (by omega)).mono ?_; rintro e w' ⟨rfl, rfl⟩
      go_wp2_with fail
      refine (toTour_any s0 _ _ _ xs0 _ (HI0.out.ext HE.out) (by omega)).mono ?_; rintro e w19 ⟨At6, ct6, rfl, ho, hE⟩
      replace HOt1 := hide (HOt1.out.ext hE)
      replace HOt2 := hide (HOt2.out.ext hE)
      replace HOw0 := hide (HOw0.out.ext hE)
      replace HOx0 := hide (HOx0.out.ext hE)
      replace HOx1 := hide (HOx1.out.ext hE)
      replace HOg0 := hide (HOg0.out.ext hE)
      replace HOt5 := hide (HOt5.out.ext hE)
      replace Cb0 := hE.get Cb0; replace Cb1 := hE.get Cb1
      replace Cx00 := hE.get Cx00; replace Cx01 := hE.get Cx01
      have hz19 := hE.size
      replace HE := hide (HE.out.trans hE)
      clear hE
      have HOt6 := hide (InI.mk_ ho); clear ho
      go_wp2_with fail
      refine (toIntS_any _ _ _ xs1 _ (HI1.out.ext HE.out) (by omega)).mono ?_; rintro e w20 ⟨At7, ct7, rfl, ho, hE⟩
      replace HOt1 := hide (HOt1.out.ext hE)
      replace HOt2 := hide (HOt2.out.ext hE)
      replace HOw0 := hide (HOw0.out.ext hE)
      replace HOx0 := hide (HOx0.out.ext hE)
      replace HOx1 := hide (HOx1.out.ext hE)
      replace HOg0 := hide (HOg0.out.ext hE)
      replace HOt5 := hide (HOt5.out.ext hE)
      replace HOt6 := hide (HOt6.out.ext hE)
      replace Cb0 := hE.get Cb0; replace Cb1 := hE.get Cb1
      replace Cx00 := hE.get Cx00; replace Cx01 := hE.get Cx01
      have hz20 := hE.size
      replace HE := hide (HE.out.trans hE)
      clear hE
      have HOt7 := hide (InI.mk_ ho); clear ho
      go_wp2_with fail
      refine (iDoubleOrder_any s0 _ _ _ xs0 _ _ _ xs1 _ HOt6.out.ints HOt7.out.ints (by omega)).mono ?_; rintro e w21 ⟨Ah0, ch0, rfl, ho0, hE⟩
      replace HOt1 := hide (HOt1.out.ext hE)
      replace HOt2 := hide (HOt2.out.ext hE)
      replace HOw0 := hide (HOw0.out.ext hE)
      replace HOx0 := hide (HOx0.out.ext hE)
      replace HOx1 := hide (HOx1.out.ext hE)
      replace HOg0 := hide (HOg0.out.ext hE)
      replace HOt5 := hide (HOt5.out.ext hE)
      replace HOt6 := hide (HOt6.out.ext hE)
      replace HOt7 := hide (HOt7.out.ext hE)
      replace Cb0 := hE.get Cb0; replace Cb1 := hE.get Cb1
      replace Cx00 := hE.get Cx00; replace Cx01 := hE.get Cx01
      have hz21 := hE.size
      replace HE := hide (HE.out.trans hE)
      clear hE
      have HOh0 := hide ho0; clear ho0
      go_wp2_with fail
      refine (eqIntSS_any _ _ _ (orderG s0 xs0 xs1) _ _ _ (orderG s0 xs0 xs1) _ HOh0.out.grid HOw0.out.grid).mono ?_; rintro e w22 ⟨rfl, hE⟩
      replace HOt1 := hide (HOt1.out.ext hE)
      replace HOt2 := hide (HOt2.out.ext hE)
      replace HOw0 := hide (HOw0.out.ext hE)
      replace HOx0 := hide (HOx0.out.ext hE)
      replace HOx1 := hide (HOx1.out.ext hE)
      replace HOg0 := hide (HOg0.out.ext hE)
      replace HOt5 := hide (HOt5.out.ext hE)
      replace HOt6 := hide (HOt6.out.ext hE)
      replace HOt7 := hide (HOt7.out.ext hE)
      replace HOh0 := hide (HOh0.out.ext hE)
      replace Cb0 := hE.get Cb0; replace Cb1 := hE.get Cb1
      replace Cx00 := hE.get Cx00; replace Cx01 := hE.get Cx01
      have hz22 := hE.size
      replace HE := hide (HE.out.trans hE)
      clear hE
      go_wp2_with fail
      refine (heldIntSS_any _ _ _ _ _ _ HOg0.out.grid (by omega) (by omega)).mono ?_; rintro e w' ⟨rfl, rfl⟩
      go_wp2
      go_ret
      exact ⟨by first | rfl | simp, HE.out⟩
    · go_enter Try.func10, Try.ntmps10
      go_wp2_with fail
      obtain ⟨w1, hW⟩ : ∃ W : World, W = w.alloc (.cells #[.int .i64 s0, .slice A0 xs0.length c0] 24) := ⟨_, rfl⟩
      rw [← hW]
      have hE : Ext w w1 := by rw [hW]; exact Ext.one _ _
      have Cb0 : w1.cell? ⟨w.heap.size, 0, none⟩ = some (.int .i64 s0) := by rw [hW]; simp
      have Cb1 : w1.cell? ⟨w.heap.size, 1, none⟩ = some (.slice A0 xs0.length c0) := by rw [hW]; simp
      have hzq1 : w.heap.size + 1 ≤ w1.heap.size := by rw [hW]; simp
      clear hW
      have hz1 := hE.size
      have HE := hide hE
      clear hE
      have HSZ := hide (szLeft_no (n := xs0.length) (left := 1048576) (by omega))
      go_wp2_with fail
      refine (szTour_any _ _ _ _ _ _ (by have := HI0.out.le; have := HI0.out.max; omega) (by omega) (by omega)).mono ?_; rw [HSZ.out]; rintro e w2 ⟨rfl, hE⟩
      replace Cb0 := hE.get Cb0; replace Cb1 := hE.get Cb1
      have hz2 := hE.size
      replace HE := hide (HE.out.trans hE)
      clear hE
      clear HSZ
      go_wp2
      go_ret
      exact ⟨rfl, HE.out⟩
  · go_enter Try.func10, Try.ntmps10
    go_wp2
    go_ret
    exact ⟨rfl, Ext.one _ _⟩

end Go.Proofs.Ytkfijamaakjifaa
