/-
  The reference's list of all pairings, and its first pairing.
-/
import Derived.Deep.RegionLaw
import Derived.Laws.ShiftsVar
import Derived.Test.YtbaljgdepicigaaBase
import Derived.Test.YtbaljgdepicigaaMathA
import Derived.Test.YtbaljgdepicigaaMathD
import Derived.Test.YtbaljgdepicigaaLib
import Derived.Test.YtbaljgdepicigaaAid
import Derived.Test.YtbaljgdepicigaaStep
import Derived.Test.YtbaljgdepicigaaGrid
import Derived.Test.YtbaljgdepicigaaLibF
import Derived.Test.YtbaljgdepicigaaMathB
import Derived.Test.YtbaljgdepicigaaMathU
import Derived.Test.YtbaljgdepicigaaMathS
import Derived.Test.YtbaljgdepicigaaMathP
import Derived.Test.YtbaljgdepicigaaSwiss
import Derived.Test.YtbaljgdepicigaaSwissB
import Derived.Test.YtbaljgdepicigaaFillD
namespace Go.Proofs.Ytbaljgdepicigaa
open Go.RowKit
set_option linter.unusedVariables false
set_option maxRecDepth 100000

-- words
theorem run_mid_int (A : Option Addr) (n c k h : Nat) (hk : k ≤ h) (hn : h ≤ n) (hc : n ≤ c) (l r : Int) (hl : l = (k : Int)) (hr : r = (h : Int)) (w : World) :
    (Instr.sliceAt 23 (.slice A n c) (some (.int .i64 l)) (some (.int .i64 r)) none).run Try.prog w = .ok (.slice (tailA A c k) (h - k) (c - k)) w := by
  subst hl hr
  have ht : Try.prog.underlying 23 = some (.slice 3) := Try.underlying23
  obtain ⟨i, hi, hs⟩ := Option.map_eq_some_iff.1 size_int
  have e : Try.prog.elem 23 = 3 := by simp [Program.elem, ht]
  have ht' : Try.prog.underlying 23 = some (.slice (Try.prog.elem 23)) := by rw [e]; exact ht
  rw [run_sliceAt_slice w 23 _ _ _ _ ht', run_slice_lh w 23 A n c ht' .i64 .i64 (k : Int) (h : Int) (by omega) (by omega) (by omega)]
  rw [e]
  simp [sizeOf, typeInfo, hi, hs, sliced, tailA]
theorem Ints.mid {w : World} {A : Option Addr} {n c : Nat} {xs : List Int} (h : Ints w A n c xs) {k j : Nat} (hk : k ≤ j) (hj : j ≤ n) : Ints w (tailA A c k) (j - k) (c - k) ((xs.take j).drop k) :=
  (h.take hj).tail hk
theorem push_rowG {ops : Array Oper} {rest : List Oper} {o : Oper} {a : Act} {Q : Exit → Act → World → Prop} {w0 w : World} {lo : Nat} {A B : Option Addr} {n c m d : Nat} {rows : List (List Int)} {r : List Int} (hgd : o.guard = none) (s x : Operand)
    (ho : o.op = .call { callee := .builtin .append, args := #[s, x], argTypes := #[36, 36] })
    (hs : a.eval s = .slice A n c) (h : OwG w0 lo w0.heap.size A n c rows) (hE : Ext w0 w) (hB : OwI w w0.heap.size B m d r) (X : Nat) (hx : a.eval x = .slice (some ⟨X, 0, none⟩) 1 1) (hX : w.cell? ⟨X, 0, none⟩ = some (.slice B m d))
    (hsz : n + 1 ≤ 1073741824) (hlo : lo ≤ w0.heap.size)
    (hk : ∀ A' c' w', OwG w' lo w'.heap.size A' (n + 1) c' (rows ++ [r]) → w.grownBy w' (A.map (·.block)) → (A'.map (·.block) = A.map (·.block) ∨ A'.map (·.block) = some w.heap.size) → wpList Try.prog ops Q rest (a.put o.dst (.slice A' (n + 1) c')) w') : wpList Try.prog ops Q (o :: rest) a w := by
  obtain ⟨hs1, h⟩ := h
  obtain ⟨i0, hi0, hz0, hz1, hz2⟩ := info_parts info_sl
  refine wpList_push_any hgd s x 36 ho i0 _ 24 Try.underlying36 hi0 hz0 hz1 hz2 rfl hs (h.ow.ext hE) (some ⟨X, 0, none⟩) 1 1 [.slice B m d] hx
    ⟨rfl, Nat.le_refl _, by omega, fun _ => ⟨X, 0, rfl, World.block_lt_of_cell? w _ hX, fun k v hv => ?_⟩⟩ (by simp [Value.oneCell']) (by omega) (by omega) (by have := hE.size; omega) ?_
  · match k with
    | 0 => simp at hv; subst hv; exact hX
    | k + 1 => simp at hv
  · intro A' c' w' h1 h2 h3
    exact hk A' c' w' (OwG.pushed h hE hB h1 h2 hlo) h2 h3
theorem OwG.top {w : World} {lo hi : Nat} {A : Option Addr} {n c : Nat} {rows : List (List Int)} (h : OwG w lo hi A n c rows) : ∀ k, A.map (·.block) = some k → lo ≤ k ∧ k < hi := by
  obtain ⟨hs, h⟩ := h
  exact fun k hk => ⟨(h.ow.block k hk).1, h.top k hk⟩
theorem allL_len (ms : List Int) : ∀ (k : Nat) (left ps : List Int), left.length ≤ 8 → (allL ms k left ps).length ≤ 8 ^ k := by
  have key : ∀ (l : List Nat) (f : Nat → List (List Int)) (m : Nat), (∀ x ∈ l, (f x).length ≤ m) → (l.flatMap f).length ≤ l.length * m := by
    intro l f m
    induction l with
    | nil => simp
    | cons x l ih =>
      intro h
      have h1 := h x (by simp)
      have h2 := ih fun y hy => h y (by simp [hy])
      rw [List.flatMap_cons, List.length_append, List.length_cons, Nat.succ_mul]
      omega
  intro k
  induction k with
  | zero => intro left ps _; simp [allL]
  | succ k ih =>
    intro left ps hl
    simp only [allL]
    have hp : 1 ≤ 8 ^ k := Nat.one_le_pow _ _ (by omega)
    split
    · rw [Nat.pow_succ]; simp; omega
    · refine Nat.le_trans (key _ _ (8 ^ k) fun x hx => ?_) ?_
      · unfold allStep
        split
        · simp
        · refine ih _ _ ?_
          have := List.mem_range.1 hx
          simp
          omega
      · rw [Nat.pow_succ, Nat.mul_comm, List.length_range]
        exact Nat.mul_le_mul_left _ hl
theorem take_flat (f : Nat → List (List Int)) (i : Nat) : (List.range (i + 1)).flatMap f = (List.range i).flatMap f ++ f i := by rw [List.range_succ, List.flatMap_append]; simp
def accA (ms left ps : List Int) (k i : Nat) : List (List Int) := (List.range i).flatMap (allStep ms left ps (allL ms k))
theorem accA_succ (ms left ps : List Int) (k i : Nat) : accA ms left ps k (i + 1) = accA ms left ps k i ++ allStep ms left ps (allL ms k) i := take_flat _ _
/-- The same block, or a new one. -/
def Apt (w : World) (A B : Option Addr) : Prop := A.map (·.block) = B.map (·.block) ∨ ∃ b, A.map (·.block) = some b ∧ w.heap.size ≤ b
theorem accA_len (ms left ps : List Int) (k : Nat) (hl : left.length ≤ 8) : ∀ i, i ≤ left.length → (accA ms left ps k i).length ≤ i * 8 ^ k := by
  intro i
  induction i with
  | zero => intro _; simp [accA]
  | succ i ih =>
    intro hi
    have h1 := ih (by omega)
    rw [accA_succ, List.length_append, Nat.succ_mul]
    have h2 : (allStep ms left ps (allL ms k) i).length ≤ 8 ^ k := by
      unfold allStep
      split
      · simp
      · refine allL_len ms k _ _ ?_
        simp
        omega
    omega
theorem mid_sub (l : List Int) (i : Nat) : ((l.take i).drop 1 ++ l.drop (i + 1)).Sublist l := by
  have h1 : ((l.take i).drop 1).Sublist (l.take i) := List.drop_sublist _ _
  have h2 : (l.drop (i + 1)).Sublist (l.drop i) := by rw [← List.drop_drop]; exact List.drop_sublist _ _
  have := h1.append h2
  rwa [List.take_append_drop] at this
-- spec.l24All
set_option maxHeartbeats 4000000 in
theorem l24All_any (Am : Option Addr) (n cm : Nat) (ms : List Int) (hn8 : n ≤ 8) (hmb : ∀ m ∈ ms, 0 ≤ m ∧ m ≤ 255) : ∀ (k : Nat) (Al : Option Addr) (nl cl : Nat) (left : List Int) (B : Option Addr) (d : Nat) (ps : List Int) (Ar : Option Addr) (m cr : Nat) (rows : List (List Int)) (lo : Nat) (w0 w : World),
    nl < k → nl ≤ 8 → (∀ x ∈ left, 0 ≤ x ∧ x < (n : Int)) → left.Nodup → Ints w Am n cm ms → Ints w Al nl cl left → OwG w0 lo w0.heap.size Ar m cr rows → Ext w0 w → Ints w B n d ps → (B.map (·.block) ≠ Ar.map (·.block) ∨ B = none) → (nl = 0 → OwI w w0.heap.size B n d ps) → lo ≤ w0.heap.size →
    (Am.map (·.block) ≠ Ar.map (·.block) ∨ Am = none) → (Al.map (·.block) ≠ Ar.map (·.block) ∨ Al = none) → m + 8 ^ k ≤ 1073741824 →
    Calls Try.prog 98 #[.slice Am n cm, .slice Al nl cl, .slice B n d, .slice Ar m cr] w fun e w' => ∃ A' c', e = .returned (.slice A' (m + (allL ms k left ps).length) c') ∧
      OwG w' lo w'.heap.size A' (m + (allL ms k left ps).length) c' (rows ++ allL ms k left ps) ∧ w.grownBy w' (Ar.map (·.block)) ∧ Apt w A' Ar := by
  intro k
  induction k with
  | zero => intro Al nl cl left B d ps Ar m cr rows lo w0 w h; omega
  | succ k ih =>
    intro Al nl cl left B d ps Ar m cr rows lo w0 w hk hl8 hlb hnd hM hL hO hE hP hdp hpo hlo hdm hdl hbd
    have HM := hide hM
    have HL := hide hL
    have HO := hide hO
    have HE := hide hE
    have HP := hide hP
    have HLN := hide hL.len
    have HLB := hide hlb
    have HND := hide hnd
    have HMN := hide hM.len
    have hle := hL.le
    have hmx := hL.max
    have hmle := hM.le
    have hmmx := hM.max
    have hple := hP.le
    have hpmx := hP.max
    have hwz := hE.size
    have HIH := hide ih
    have hp8 : 1 ≤ 8 ^ k := Nat.one_le_pow _ _ (by omega)
    rw [Nat.pow_succ] at hbd
    have HDP := hide hdp
    have HPO := hide hpo
    have HDM := hide hdm
    have HDL := hide hdl
    clear hM hL hO hE hP hdp hpo hlb hnd ih hdm hdl
    by_cases h0 : nl = 0
    · subst h0
      have HA := hide (show allL ms (k + 1) left ps = [ps] by simp [allL, HLN.out])
      rw [HA.out]
      have hm1 : m + 1 ≤ 1073741824 := by omega
      have HX := hide (show (w.alloc (.cells #[.slice B n d] 23)).cell? ⟨w.heap.size, 0, none⟩ = some (.slice B n d) by
        have := heap_alloc_new w (.cells #[.slice B n d] 23)
        rw [cell_of_row _ _ 0 _ _ _ this]; rfl)
      go_enter Try.func98, Try.ntmps98
      go_wp2_with (at_builtin; refine push_rowG (w0 := w0) rfl (.tmp 16) (.tmp 18) rfl rfl HO.out (HE.out.alloc _) ((HPO.out rfl).ext (Ext.one _ _)) w.heap.size rfl HX.out hm1 hlo ?_; intro A5 c5 w5 ho5 hg5 hat5; have HO5 := hide ho5; have HG5 := hide (grown_trans ((Ext.one w (.cells #[.slice B n d] 23)).to_grown _) hg5 (.inr (.inl rfl))); have HAT := hide (show Apt w A5 Ar from hat5.elim .inl fun h => .inr ⟨_, h, by simp⟩); clear ho5 hg5 hat5)
      go_ret
      exact ⟨A5, c5, rfl, HO5.out, HG5.out, HAT.out⟩
    · have hn0 : 0 < nl := by omega
      have hn0i : (0 : Int) < (nl : Int) := by omega
      have hnz : ((nl : Int) == 0) = false := by simp; omega
      have HA := hide (show allL ms (k + 1) left ps = accA ms left ps k nl by
        simp only [allL, HLN.out]; rw [if_neg h0]; rfl)
      rw [HA.out]
      have HALL := hide (allL_len ms (k + 1) left ps (by rw [HLN.out]; exact hl8))
      rw [HA.out, Nat.pow_succ] at HALL
      obtain ⟨ba, oa, xa, rfl, hba, hxa, wxa, hca⟩ := HL.out.get hn0
      have hab := HLB.out xa (List.mem_of_getElem? hxa)
      obtain ⟨a, rfl⟩ : ∃ a : Nat, xa = (a : Int) := ⟨xa.toNat, by omega⟩
      have HXA := hide (show left.getD 0 0 = (a : Int) by rw [List.getD, hxa]; rfl)
      have HXA2 := hide hxa
      have han : a < n := by omega
      simp only [Nat.add_zero] at hca
      clear hxa h0
      go_enter Try.func98, Try.ntmps98
      go_wp2
      go_loopw [3, 25] (fun o i wr => ∃ (i' c1 : Nat) (A1 : Option Addr), i' ≤ nl ∧ i = .int .i64 (i' : Int) ∧ o = .slice A1 (m + (accA ms left ps k i').length) c1 ∧ w.heap.size ≤ wr.heap.size ∧
        Hid (OwG wr lo wr.heap.size A1 (m + (accA ms left ps k i').length) c1 (rows ++ accA ms left ps k i')) ∧ Hid (w.grownBy wr (Ar.map (·.block))) ∧ Hid (Apt w A1 Ar)) (fun _ i _ => nl - (intOf i).toNat)
      case atStart =>
        have h9 := (HO.out.ext HE.out).mono (Nat.le_refl _) hwz
        exact ⟨0, cr, Ar, Nat.zero_le _, rfl, rfl, Nat.le_refl _, hide (by simpa [accA] using h9), hide (grown_refl _ _), hide (.inl rfl)⟩
      case round =>
        obtain ⟨i, c1, A1, hi, rfl, rfl, hwr, HO1, HG1, HAT1⟩ := hrel
        by_cases hlt : i < nl
        · have hii : (i : Int) < (nl : Int) := by omega
          have HLr := hide (HL.out.grown HG1.out HDL.out)
          obtain ⟨b', o', xb, e, hbb, hxb, wxb, hcb⟩ := HLr.out.get hlt
          cases e
          obtain ⟨b', o', xz, e, _, hxz, _, hcz⟩ := HLr.out.get hn0
          cases e
          have hbb2 := HLB.out xb (List.mem_of_getElem? hxb)
          obtain ⟨b, rfl⟩ : ∃ b : Nat, xb = (b : Int) := ⟨xb.toNat, by omega⟩
          have hbn : b < n := by omega
          have HXB := hide (show left.getD i 0 = (b : Int) by rw [List.getD, hxb]; rfl)
          have HMr := hide (HM.out.grown HG1.out HDM.out)
          obtain ⟨bm, om, mm, rfl, hbm, hmm, wmm, hcm⟩ := HMr.out.get han
          have hmr := hmb mm (List.mem_of_getElem? hmm)
          have HBT := hide (and_bit hmr.1 (by omega) b)
          have HMT := hide (show mtP ms (left.getD 0 0) (left.getD i 0) = decide (bitAt mm b = 1) by rw [HXA.out, HXB.out]; unfold mtP; rw [Int.toNat_natCast, Int.toNat_natCast, List.getD, hmm]; rfl)
          have HTF := hide (accA_succ ms left ps k i)
          have hbi : (0 : Int) ≤ (b : Int) := by omega
          have HINE := hide (show i ≠ 0 → a ≠ b from fun hi0 e => by
            subst e
            have h1 := HXA2.out
            have h2 := hxb
            exact hi0 ((List.getElem?_inj (by rw [HLN.out]; exact hlt) HND.out).1 (h2.trans h1.symm)))
          clear hxb hxz hcz hmm wmm hbb hbm
          by_cases hi0 : i = 0
          · have HS := hide (show allStep ms left ps (allL ms k) i = [] from if_pos (.inl hi0))
            subst hi0
            simp only [Nat.add_zero] at hcb
            go_wp2
            go_roundw
            case rel => exact ⟨1, c1, A1, by omega, by go_num, by rw [HTF.out, HS.out, List.append_nil], hwr, hide (by rw [HTF.out, HS.out, List.append_nil]; exact HO1.out), HG1, HAT1⟩
            case measure => (simp [intOf] <;> omega)
          · have hib : ((i : Int) == 0) = false := by simp; omega
            have hi1 : 1 ≤ i := by omega
            have hab2 : a ≠ b := HINE.out hi0
            clear HINE
            by_cases hbit : bitAt mm b = 1
            · have HS := hide (show allStep ms left ps (allL ms k) i = [] from if_pos (.inr (by rw [HMT.out]; simpa using hbit)))
              rw [hbit] at HBT
              have hbits := HBT.out
              clear hbit
              go_wp2
              go_roundw
              case rel => exact ⟨i + 1, c1, A1, by omega, by go_num, by rw [HTF.out, HS.out, List.append_nil], hwr, hide (by rw [HTF.out, HS.out, List.append_nil]; exact HO1.out), HG1, HAT1⟩
              case measure => (simp [intOf] <;> omega)
            · have HS := hide (show allStep ms left ps (allL ms k) i = allL ms k ((left.take i).drop 1 ++ left.drop (i + 1)) ((ps.set a (b : Int)).set b (a : Int)) by
                unfold allStep
                rw [if_neg (by rw [HMT.out]; simp [hbit, hi0]), HXA.out, HXB.out, Int.toNat_natCast, Int.toNat_natCast])
              have hb2 : (bitAt mm b == 1) = false := by simpa using hbit
              have hbits := HBT.out
              clear hbit hi0
              generalize bitAt mm b = zb at hbits hb2
              have HPr := hide (HP.out.grown HG1.out HDP.out)
              have HOL := hide (ints_lit0 wr (Nat.le_refl _))
              have HI64a := hide (show I64 (a : Int) from ⟨by omega, by omega⟩)
              have HI64b := hide (show I64 (b : Int) from ⟨by omega, by omega⟩)
              go_wp2_with (at_builtin; refine push_ints rfl (.tmp 42) (.tmp 43) rfl rfl HOL.out B n d ps rfl (HPr.out.ext (Ext.one _ _)) (by omega) (by simp) ?_; intro B4 d4 w4 hb4 hg4 hat4; rw [Nat.zero_add, List.nil_append] at hb4; have HE4 := hide ((Ext.one wr (.cells #[] 3)).grown hg4 (fun q hq => (HOL.out.block q hq).1)); clear hg4 hat4; obtain ⟨bn, on, y1, rfl, hbn0, hbn1, hy1, wy1, k1, k2⟩ := hb4.get han; have HN5 := hide (hb4.store rfl han HI64b.out); obtain ⟨bn', on', y2, e, _, _, hy2, wy2, k3, k4⟩ := HN5.out.get hbn; cases e; have HN6 := hide (HN5.out.store rfl hbn HI64a.out); clear hb4 hy1 hy2 wy1 wy2)
              obtain ⟨w5, hw5⟩ : ∃ w5 : World, w5 = (w4.setCell ⟨bn, on + a, none⟩ (.int .i64 (b : Int))).setCell ⟨bn, on + b, none⟩ (.int .i64 (a : Int)) := ⟨_, rfl⟩
              have HE5 := hide (show Ext wr w5 by rw [hw5]; exact (HE4.out.setCell (p := ⟨bn, on + a, none⟩) hbn0 _).setCell (p := ⟨bn, on + b, none⟩) hbn0 _)
              rw [← hw5] at HN6 ⊢
              clear hw5 k1 k2 k3 k4 HN5 hbn0 hbn1
              have HOL5 := hide (show OwI ((w5.alloc (.cells #[] 3)).drew) w5.heap.size (some ⟨w5.heap.size, 0, none⟩) 0 0 [] from (ints_lit0 w5 (Nat.le_refl _)).ext ((Ext.refl _).drew))
              have hwp1 : IntKind.i64.wrap ((i : Int) + 1) = (i : Int) + 1 := by rw [IntKind.wrap_i64]; omega
              have hmd := run_mid_int (some ⟨ba, oa, none⟩) nl cl 1 i hi1 (by omega) hle 1 (i : Int) rfl rfl
              have htl := run_tail_int (some ⟨ba, oa, none⟩) nl cl (i + 1) (by omega) ((i : Int) + 1) (by omega)
              have HMD := hide (show Ints ((w5.alloc (.cells #[] 3)).drew) (tailA (some ⟨ba, oa, none⟩) cl 1) (i - 1) (cl - 1) ((left.take i).drop 1) from ((HLr.out.ext HE5.out).mid hi1 (by omega)).ext ((Ext.one _ _).drew))
              have HTL := hide (show Ints wr (tailA (some ⟨ba, oa, none⟩) cl (i + 1)) (nl - (i + 1)) (cl - (i + 1)) (left.drop (i + 1)) from HLr.out.tail (by omega))
              have HE5d := hide (show Ext wr ((w5.alloc (.cells #[] 3)).drew) from (HE5.out.alloc _).drew)
              have HAL := hide (accA_len ms left ps k (by rw [HLN.out]; exact hl8) i (by rw [HLN.out]; omega))
              have HBD := hide (show m + (accA ms left ps k i).length + 8 ^ k ≤ 1073741824 by
                have h1 : i * 8 ^ k ≤ 7 * 8 ^ k := Nat.mul_le_mul_right _ (by omega)
                have h2 := HAL.out
                omega)
              generalize tailA (some ⟨ba, oa, none⟩) cl 1 = TA at *
              generalize tailA (some ⟨ba, oa, none⟩) cl (i + 1) = TB at *
              have HDA := hide (show Option.map (·.block) (some (⟨bm, om, none⟩ : Addr)) ≠ A1.map (·.block) ∨ (some (⟨bm, om, none⟩ : Addr)) = none from by
                rcases HAT1.out with h | ⟨q, h, hq⟩
                · rw [h]; exact HDM.out
                · refine .inl fun e => ?_
                  obtain ⟨q2, _, _, e2, hq2, _⟩ := HM.out.get han
                  cases e2
                  rw [h] at e
                  simp at e
                  omega)
              have HSUB := hide (mid_sub left i)
              have hz5 := HE5.out.size
              have hz5d := HE5d.out.size
              have hsz1 : 0 + (i - 1) ≤ 4294967296 := by omega
              have hsz2 : i - 1 + (nl - (i + 1)) ≤ 4294967296 := by omega
              have hnl2 : i - 1 + (nl - (i + 1)) < k := by omega
              have hnl3 : i - 1 + (nl - (i + 1)) ≤ 8 := by omega
              have hlw : lo ≤ wr.heap.size := by omega
              go_region_law (first
                | (refine step_push_ints rfl (.tmp 54) (.tmp 57) rfl rfl HOL5.out TA (i - 1) (cl - 1) _ rfl HMD.out hsz1 (by simp) ?_; intro B6 d6 w6 hb6 hg6 hat6; rw [Nat.zero_add, List.nil_append] at hb6; have HB6 := hide hb6; have HE6 := hide (HE5d.out.grown hg6 (fun q hq => Nat.le_trans hz5 (HOL5.out.block q hq).1)); have HX6 := hide (((Ext.one w5 (.cells #[] 3)).drew).grown hg6 (fun q hq => (HOL5.out.block q hq).1)); clear hb6 hg6 hat6)
                | (refine step_push_ints rfl (.tmp 58) (.tmp 62) rfl rfl HB6.out TB (nl - (i + 1)) (cl - (i + 1)) _ rfl (HTL.out.ext HE6.out) hsz2 HX6.out.size ?_; intro B7 d7 w7 hb7 hg7 hat7; have HB7 := hide hb7; have HE7 := hide (HE6.out.grown hg7 (fun q hq => Nat.le_trans hz5 (HB6.out.block q hq).1)); have HX7 := hide (HX6.out.grown hg7 (fun q hq => (HB6.out.block q hq).1)); clear hb7 hg7 hat7)
                | (go_simp; go_at_call 98; refine (HIH.out B7 (i - 1 + (nl - (i + 1))) d7 _ (some ⟨bn, on, none⟩) d4 ((ps.set a (b : Int)).set b (a : Int)) A1 (m + (accA ms left ps k i).length) c1 (rows ++ accA ms left ps k i) lo wr w7 hnl2 hnl3 (fun x hx => HLB.out x (HSUB.out.subset hx)) (HND.out.sublist HSUB.out) (HMr.out.ext HE7.out) HB7.out.ints HO1.out HE7.out ((HN6.out.ext HX7.out).ints) (.inl (fun e2 => by have h1 := (HN6.out.block bn rfl).1; have h2 := (HO1.out.top bn e2.symm).2; omega)) (fun _ => HN6.out.ext HX7.out) hlw HDA.out (by
                    cases e : B7.map (·.block) with
                    | none => exact .inr (by simpa using e)
                    | some q =>
                      refine .inl fun e2 => ?_
                      have h1 := (HB7.out.block q e).1
                      have h2 := (HO1.out.top q e2.symm).2
                      omega) HBD.out).mono ?_; rintro e w8 ⟨A8, c8, rfl, ho8, hg8, hat8⟩))
              all_goals (
                have HO8 := hide (show OwG w8 lo w8.heap.size A8 (m + (accA ms left ps k (i + 1)).length) c8 (rows ++ accA ms left ps k (i + 1)) by
                  rw [HTF.out, HS.out, List.length_append, ← Nat.add_assoc, ← List.append_assoc]; exact ho8)
                have HG8 := hide (show w.grownBy w8 (Ar.map (·.block)) from by
                  refine grown_trans (grown_trans HG1.out (HE7.out.to_grown none) (.inl rfl)) hg8 ?_
                  rcases HAT1.out with h | ⟨q, h, hq⟩
                  · exact .inr (.inl h)
                  · exact .inr (.inr ⟨q, h, hq⟩))
                have HAT8 := hide (show Apt w A8 Ar from by
                  rcases hat8 with h | ⟨q, h, hq⟩
                  · rcases HAT1.out with h2 | ⟨q2, h2, hq2⟩
                    · exact .inl (h.trans h2)
                    · exact .inr ⟨q2, h.trans h2, hq2⟩
                  · exact .inr ⟨q, h, by have := HE7.out.size; omega⟩)
                have hz8 : w.heap.size ≤ w8.heap.size := HG8.out.size
                have HLEN := hide (show m + (accA ms left ps k i).length + (allL ms k (List.drop 1 (List.take i left) ++ List.drop (i + 1) left) ((ps.set a (b : Int)).set b (a : Int))).length = m + (accA ms left ps k (i + 1)).length by
                  rw [HTF.out, HS.out, List.length_append, Nat.add_assoc])
                clear ho8 hg8 hat8
                go_wp2
                go_roundw
                case rel => exact ⟨i + 1, c8, A8, by omega, by go_num, by first | exact congrArg (fun z => Value.slice A8 z c8) HLEN.out | (have h9 := HLEN.out; simp only [List.drop_one] at h9; exact congrArg (fun z => Value.slice A8 z c8) h9), hz8, HO8, HG8, HAT8⟩
                case measure => (simp [intOf] <;> omega))
        · have hie : i = nl := by omega
          subst hie
          go_wp2
          go_ret
          exact ⟨A1, c1, rfl, HO1.out, HG1.out, HAT1.out⟩

end Go.Proofs.Ytbaljgdepicigaa
