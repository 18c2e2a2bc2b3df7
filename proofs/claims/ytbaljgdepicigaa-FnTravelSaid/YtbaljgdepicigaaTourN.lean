/-
  Contract of the program's shortest tour, which keeps what it has found in a map.
-/
import Derived.Laws.ShiftsVar
import Derived.Deep.RegionHeld3
import Derived.Maps.Own
import Derived.WideKeyPair
import Derived.Test.YtbaljgdepicigaaBase
import Derived.Test.YtbaljgdepicigaaMathA
import Derived.Test.YtbaljgdepicigaaMathD
import Derived.Test.YtbaljgdepicigaaLib
import Derived.Test.YtbaljgdepicigaaAid
import Derived.Test.YtbaljgdepicigaaStep
import Derived.Test.YtbaljgdepicigaaGrid
import Derived.Test.YtbaljgdepicigaaMathG
import Derived.Test.YtbaljgdepicigaaMathT
import Derived.Test.YtbaljgdepicigaaMathM
import Derived.Test.YtbaljgdepicigaaTen
import Derived.Test.YtbaljgdepicigaaTourM
namespace Go.Proofs.Ytbaljgdepicigaa
open Go.RowKit
set_option linter.unusedVariables false

-- words of the memo
theorem andnot_bit {m a : Nat} (hm : m < 1024) (ha : a < 10) (h : m.testBit a = true) : bits .andNot .i64 (m : Int) ((2 ^ a : Nat) : Int) = ((m - 2 ^ a : Nat) : Int) := by
  have hp : 2 ^ a ≤ 1024 := Nat.pow_le_pow_right (n := 2) (j := 10) (by omega) (by omega)
  have h1 : (BitVec.ofInt 64 (m : Int)).toNat = m := by
    rw [BitVec.ofInt_natCast, BitVec.toNat_ofNat]; exact Nat.mod_eq_of_lt (by omega)
  have h2 : (BitVec.ofInt 64 ((2 ^ a : Nat) : Int)).toNat = 2 ^ a := by
    rw [BitVec.ofInt_natCast, BitVec.toNat_ofNat]; exact Nat.mod_eq_of_lt (by omega)
  have h3 : m &&& (2 ^ 64 - 1 - 2 ^ a) = m - 2 ^ a := by
    apply Nat.eq_of_testBit_eq
    intro i
    rw [Nat.testBit_and, show 2 ^ 64 - 1 - 2 ^ a = 2 ^ 64 - (2 ^ a + 1) by omega, Nat.testBit_two_pow_sub_succ (by omega), take_bit h, Nat.testBit_two_pow]
    by_cases hi : i < 64
    · simp [hi]
    · have h2 : m.testBit i = false := Nat.testBit_lt_two_pow (Nat.lt_of_lt_of_le hm (Nat.pow_le_pow_right (n := 2) (i := 10) (by omega) (by omega)))
      simp [h2]
  show IntKind.i64.wrap ((BitVec.ofInt 64 (m : Int) &&& ~~~ BitVec.ofInt 64 ((2 ^ a : Nat) : Int)).toNat : Int) = _
  rw [BitVec.toNat_and, BitVec.toNat_not, h1, h2, h3, IntKind.wrap_i64]
  have : m - 2 ^ a ≤ m := Nat.sub_le _ _
  generalize m - 2 ^ a = z at *
  omega
-- the map's key
theorem arr_key : Go.WideMaps.ArrKey Try.prog 138 3 2 := ⟨Try.underlying138, by kernel_rfl, by kernel_rfl, by kernel_rfl⟩
theorem types_some : ∃ m, Try.prog.types.size = m + 1 := by
  have h : (0 : Nat) < Try.prog.types.size := of_decide_eq_true (by kernel_rfl)
  exact ⟨Try.prog.types.size - 1, by omega⟩
theorem key_law : Go.Maps.Keyed Try.prog 138 := Go.Maps.Keyed.of_law (Go.WideMaps.ArrKey.law arr_key)
theorem zero_int (w : World) : (zeroValue 3).run Try.prog w = .ok (.int .i64 0) w := by kernel_rfl
theorem nat_wf {a : Nat} (h : a ≤ 100000) : (Lit.int .i64 (a : Int)).wf = true := by
  have h1 : IntKind.i64.min = -9223372036854775808 := by decide
  have h2 : IntKind.i64.max = 9223372036854775807 := by decide
  simp only [Lit.wf, Bool.and_eq_true, decide_eq_true_eq]
  omega
def keyV (a s : Nat) : Value := .agg #[.int .i64 (a : Int), .int .i64 (s : Int)]
theorem key_of {a s : Nat} (ha : a < 10) (hs : s < 1024) : ∃ l, keyOf Try.prog 138 (keyV a s) = some l :=
  ⟨_, Go.WideMaps.keyOf_pair arr_key Try.underlying3 types_some (nat_wf (by omega)) (nat_wf (by omega))⟩
theorem keyV_inj {a s a' s' : Nat} (h : keyV a s = keyV a' s') : a = a' ∧ s = s' := by
  unfold keyV at h
  injection h with h
  have h1 := congrArg (fun z : Array Value => z[0]?) h
  have h2 := congrArg (fun z : Array Value => z[1]?) h
  simp at h1 h2
  omega
/-- What is kept: at each key the length of the tour from there. -/
def Memo (far : List (List Int)) (home : Nat) (w : World) (b : Nat) : Prop :=
  ∃ es clock, w.heap[b]? = some (.map es clock) ∧ Go.WideElems.Fit Try.prog 138 (plainElem (H := Unit) Try.prog 3) es clock ∧ ∀ x ∈ es.toList, ∃ a s : Nat, a < 10 ∧ s < 1024 ∧ x.key = keyV a s ∧ x.val = .int .i64 (tour far home a s)
theorem Memo.lt {far : List (List Int)} {home b : Nat} {w : World} (h : Memo far home w b) : b < w.heap.size := by
  obtain ⟨es, clock, hb, _⟩ := h
  exact (Array.getElem?_eq_some_iff.1 hb).1
theorem Memo.kept {far : List (List Int)} {home b : Nat} {w w' : World} {row : Option Nat} (h : Memo far home w b) (hg : w.grownBy w' row) (hne : some b ≠ row) : Memo far home w' b := by
  have hlt := h.lt
  obtain ⟨es, clock, hb, F, hs⟩ := h
  exact ⟨es, clock, (hg.block b hlt hne).trans hb, F, hs⟩
theorem Memo.ext {far : List (List Int)} {home b : Nat} {w w' : World} (h : Memo far home w b) (hE : Ext w w') : Memo far home w' b := h.kept (hE.to_grown none) (by simp)
theorem Memo.made (far : List (List Int)) (home : Nat) (w : World) : Memo far home (w.alloc (.map #[] 0)) w.heap.size :=
  ⟨#[], 0, heap_alloc_new w _, ⟨by simp, Go.MapKept.stamped_empty 0, by simp⟩, by simp⟩
theorem Memo.look {far : List (List Int)} {home b a s : Nat} {w : World} (h : Memo far home w b) (ha : a < 10) (hs : s < 1024) :
    (Instr.lookup 112 (.map (some b)) (keyV a s) true).run Try.prog w = .ok (.tuple #[.int .i64 0, .bool false]) w ∨ (Instr.lookup 112 (.map (some b)) (keyV a s) true).run Try.prog w = .ok (.tuple #[.int .i64 (tour far home a s), .bool true]) w := by
  obtain ⟨es, clock, hb, F, hall⟩ := h
  obtain ⟨l, hl⟩ := key_of ha hs
  rcases Go.Maps.fit_look true key_law Try.underlying112 (zero_int w) hb F hl with ⟨hrun, _, _⟩ | ⟨e0, y, hmem, hk, hrun, _⟩
  · exact .inl hrun
  · obtain ⟨a', s', _, _, hk', hv⟩ := hall e0 hmem
    obtain ⟨rfl, rfl⟩ := keyV_inj (hk.symm.trans hk')
    right
    rw [hv] at hrun
    exact hrun
def partV : Option Value → Nat
  | some (Value.int _ a) => a.toNat
  | _ => 0
def codeV : Value → Nat
  | .agg v => partV v[0]? * 1024 + partV v[1]?
  | _ => 0
theorem codeV_key (a s : Nat) : codeV (keyV a s) = a * 1024 + s := by simp [codeV, keyV, partV]
theorem Memo.store {far : List (List Int)} {home b a s : Nat} {w : World} (h : Memo far home w b) (ha : a < 10) (hs : s < 1024) (hv : 0 ≤ tour far home a s ∧ tour far home a s ≤ 100000) :
    ∃ w', (Instr.mapUpdate 112 (.map (some b)) (keyV a s) (.int .i64 (tour far home a s))).run Try.prog w = .ok () w' ∧ Memo far home w' b ∧ w.grownBy w' (some b) := by
  obtain ⟨es, clock, hb, F, hall⟩ := h
  obtain ⟨l, hl⟩ := key_of ha hs
  have hpw : es.toList.Pairwise (fun x y => x.key ≠ y.key) := ((Go.MapKept.stamped_iff es clock).1 F.stamped).2.2
  have hsz : es.size ≤ 10240 := by
    have hn : (es.toList.map fun x => codeV x.key).Nodup := by
      rw [List.nodup_iff_pairwise_ne, List.pairwise_map]
      refine List.Pairwise.imp_of_mem (fun {x y} hx hy hne e => ?_) hpw
      obtain ⟨a1, s1, h1, h2, h3, _⟩ := hall x hx
      obtain ⟨a2, s2, h4, h5, h6, _⟩ := hall y hy
      rw [h3, h6, codeV_key, codeV_key] at e
      apply hne
      rw [h3, h6]
      have : a1 = a2 ∧ s1 = s2 := by omega
      rw [this.1, this.2]
    have := box_le 10240 _ hn fun z hz => by
      obtain ⟨x, hx, rfl⟩ := List.mem_map.1 hz
      obtain ⟨a1, s1, h1, h2, h3, _⟩ := hall x hx
      rw [h3, codeV_key]
      omega
    simpa using this
  have hwf : (Lit.int .i64 (tour far home a s)).wf = true := by
    have h1 := nat_wf (a := (tour far home a s).toNat) (by omega)
    rwa [Int.toNat_of_nonneg hv.1] at h1
  obtain ⟨es', clock', hrun, F', _, _, _, hwho⟩ := Go.Maps.fit_store (R' := plainElem (H := Unit) Try.prog 3) key_law Try.underlying112 hb F (by unfold maxLen; omega) (fun _ _ _ _ hz => hz) hl (plainElem_int Try.underlying3 hwf)
  refine ⟨_, hrun, ⟨es', clock', Go.ChangeMaps.heap_setBlock_same hb _, F', fun x hx => ?_⟩, ⟨rfl, rfl, rfl, by simp [Go.ChangeMaps.setBlock], fun i _ hi => Go.ChangeMaps.heap_setBlock_other hb _ (fun e => hi (by rw [e]))⟩⟩
  rcases hwho x hx with ⟨hx', _⟩ | ⟨hk, hval⟩
  · exact hall x hx'
  · exact ⟨a, s, ha, hs, hk, hval⟩
-- impl.leastTour
set_option maxHeartbeats 4000000 in
set_option maxRecDepth 100000 in
theorem leastT_any (f : Nat) : ∀ (n : Int) (A : Option Addr) (N c : Nat) (rows : List (List Int)) (home at_ set b : Nat) (w0 w : World), distOk n rows → Grid w0 A N c rows → home < N → at_ < N → set < 1024 → (∀ q, set.testBit q = true → q < N) → N ≤ 10 → pcT set = f → Ext w0 w → w0.heap.size ≤ b → Memo rows home w b →
    Calls Try.prog 129 #[.slice A N c, .int .i64 (home : Int), .int .i64 (at_ : Int), .int .i64 (set : Int), .map (some b)] w fun e w' => e = .returned (.int .i64 (tour rows home at_ set)) ∧ Memo rows home w' b ∧ w.grownBy w' (some b) := by
  induction f with
  | zero =>
    intro n A N c rows home at_ set b w0 w hd h hh ha hs hb hN hf hE hb0 hm
    have hs0 := pcT_zero hs hf
    subst hs0
    obtain ⟨b1, o1, b2, o2, d, rfl, hc1, hc2⟩ := far_cell (h.ext hE) hd ha hh
    have HT := hide (tour_zero rows home at_)
    have hhi : (home : Int) < (N : Int) := by omega
    have hai : (at_ : Int) < (N : Int) := by omega
    have HMM := hide hm
    clear hd h hb hf hs hE hm
    go_enter Try.func129, Try.ntmps129
    go_wp2
    go_ret
    exact ⟨ret_int HT.out.symm, HMM.out, grown_refl _ _⟩
  | succ f ih =>
    intro n A N c rows home at_ set b w0 w hd h hh ha hs hb hN hf hE hb0 hm
    have hs0 : set ≠ 0 := fun e => absurd (show pcT set = 0 by rw [e]; decide) (by omega)
    have hsi : ((set : Int) == 0) = false := by rw [beq_eq_false_iff_ne]; omega
    have HT := hide (tour_pos (far := rows) (home := home) (at_ := at_) hs hs0)
    have HTB := hide (tour_bound hd home at_ set hs)
    have IH := hide (fun (p : Nat) (w' : World) (hE' : Ext w0 w') (hm' : Memo rows home w' b) (hbt : set.testBit p = true) => ih n A N c rows home p (set - 2 ^ p) b w0 w' hd h hh (hb p hbt) (Nat.lt_of_le_of_lt (Nat.sub_le _ _) hs) (fun q hb2 => hb q (by rw [take_bit hbt] at hb2; simp at hb2; exact hb2.1)) hN (by have := pcT_take (a := p) (by have := hb p hbt; omega) hbt; omega) hE' hb0 hm')
    have HD := hide hd
    have HI := hide h
    have HB := hide hb
    have HE := hide hE
    have HMM := hide hm
    have hai : (at_ : Int) < (N : Int) := by omega
    have hai10 : at_ < 10 := by omega
    have hbw := hm.lt
    clear ih hd h hb hf hs0 hE hm
    rcases HMM.out.look hai10 hs with hlk | hlk
    · unfold keyV at hlk
      go_enter Try.func129, Try.ntmps129
      go_wp2_with (go_at_call 178; refine (membersOf_ten set hs _).mono ?_; rintro e w1 ⟨B, d, rfl, hoB, hE1⟩)
      have HO := hide hoB
      have HE1 := hide hE1
      clear hoB hE1 hlk
      have hm10 : (els set).length ≤ 10 := elTo_len set 10
      generalize hm : (els set).length = m at *
      have HM := hide hm
      clear hm
      have HMW := hide (HMM.out.ext HE1.out)
      clear HMM
      go_loopw [13, 39] (fun l i wr => ∃ k : Nat, k ≤ m ∧ i = .int .i64 (k : Int) ∧ l = .int .i64 (minOf (legOf rows home at_ set) ((els set).take k)) ∧ Memo rows home wr b ∧ w1.grownBy wr (some b)) (fun _ i _ => m - (intOf i).toNat)
      case atStart => exact ⟨0, Nat.zero_le _, rfl, rfl, HMW.out, grown_refl _ _⟩
      case round =>
        obtain ⟨k, hk, rfl, rfl, hmr, hgr⟩ := hrel
        have HMR := hide hmr
        have HGR := hide hgr
        clear hmr hgr
        have HE0R := hide (show Ext w0 wr from (HE.out.trans HE1.out).grown HGR.out (fun q e => by cases e; exact hb0))
        have hmb := leg_min_bound HD.out home at_ set k hs
        have HOR := hide (show OwI wr w.heap.size B m d (els set) from HO.out.grown HGR.out (by
          cases hB : B with
          | none => exact .inr rfl
          | some a0 =>
            refine .inl fun e => ?_
            have := (HO.out.block a0.block (by rw [hB]; rfl)).1
            simp at e
            omega))
        by_cases hlt : k < m
        · obtain ⟨bb, off, x, rfl, hbl, _, hx, wx, hc, _⟩ := HOR.out.get hlt
          obtain ⟨p, hp10, hpb, rfl⟩ := els_mem (List.mem_of_getElem? hx)
          have hpN := HB.out p hpb
          obtain ⟨b1, o1, b2, o2, d2, rfl, hc1, hc2⟩ := far_cell HI.out HD.out ha hpN
          have HTK := hide (take_els (f := legOf rows home at_ set) hx)
          rw [leg_nat] at HTK
          have hdb := at2_bound HD.out at_ p
          have htb := tour_bound HD.out home p (set - 2 ^ p) (Nat.lt_of_le_of_lt (Nat.sub_le _ _) hs)
          have C := hide (show ∀ (w' : World) (v : Int), Ext w0 w' → Memo rows home w' b → v = ((set - 2 ^ p : Nat) : Int) → Calls Try.prog 129 #[.slice (some ⟨b1, o1, none⟩) N c, .int .i64 (home : Int), .int .i64 (p : Int), .int .i64 v, .map (some b)] w' fun e w'' => e = .returned (.int .i64 (tour rows home p (set - 2 ^ p))) ∧ Memo rows home w'' b ∧ w'.grownBy w'' (some b) from fun w' v hE' hm' hv => by rw [hv]; exact IH.out p w' hE' hm' hpb)
          have hsh := shl_ten p (by omega)
          have hpi : (p : Int) < (N : Int) := by omega
          have HSH1 := hide (show IntKind.i64.wrap ((2 : Int) ^ p) = ((2 ^ p : Nat) : Int) by
            have h3 : ((2 ^ p : Nat) : Int) = (2 : Int) ^ p := by simp
            have h4 := hsh.2
            rw [← h3]
            generalize (2 : Nat) ^ p = z at *
            rw [IntKind.wrap_i64]; omega)
          have HAN := hide (andnot_bit hs hp10 hpb)
          have KS := hide (show ∀ w', Ext w0 w' → (Ext w0 w' ∧ w'.cell? ⟨b1, o1 + at_, none⟩ = some (.slice (some ⟨b2, o2, none⟩) N d2) ∧ w'.cell? ⟨b2, o2 + p, none⟩ = some (.int .i64 (at2 rows at_ p))) from fun w' hh => ⟨hh, hh.get hc1, hh.get hc2⟩)
          clear hx hpb hsh hc1 hc2
          generalize tour rows home p (set - 2 ^ p) = T at *
          generalize at2 rows at_ p = D at *
          generalize (set - 2 ^ p : Nat) = S2 at *
          generalize (2 ^ p : Nat) = P2 at *
          generalize minOf (legOf rows home at_ set) ((els set).take k) = M at *
          have hwT : IntKind.i64.wrap (D + T) = D + T := by rw [IntKind.wrap_i64]; omega
          go_wp2
          go_region_held3 (fun w' => Ext w0 w' ∧ w'.cell? ⟨b1, o1 + at_, none⟩ = some (.slice (some ⟨b2, o2, none⟩) N d2) ∧ w'.cell? ⟨b2, o2 + p, none⟩ = some (.int .i64 D))
            (first | exact KS.out _ HE0R.out | exact KS.out _ HE0R.out.drew | exact KS.out _ HE5.out)
            ((go_at_call 129; refine Calls.mono (C.out _ _ HE0R.out.drew (HMR.out.ext (Ext.refl _).drew) (by rw [HSH1.out, HAN.out])) ?_; rintro e w5 ⟨rfl, hm5, hg5⟩; have HE5 := hide (HE0R.out.drew.grown hg5 (fun q e => by cases e; exact hb0)); have HM5 := hide hm5; have HG5 := hide (HGR.out.trans ((grown_drew wr (some b)).trans hg5)); clear hm5 hg5))
          generalize IntKind.i64.wrap ((2 : Int) ^ p) = Z1 at *
          clear HSH1 HAN
          generalize hX : D + T = X at *
          by_cases h1 : M < 0
          · rw [if_pos (.inl h1)] at HTK
            go_wp2
            go_roundw
            case rel => exact ⟨k + 1, by omega, by go_num, by rw [HTK.out], HM5.out, HG5.out⟩
            case measure => (simp [intOf] <;> omega)
          · by_cases h2 : X < M
            · rw [if_pos (.inr h2)] at HTK
              go_wp2
              go_roundw
              case rel => exact ⟨k + 1, by omega, by go_num, by rw [HTK.out], HM5.out, HG5.out⟩
              case measure => (simp [intOf] <;> omega)
            · rw [if_neg (by omega)] at HTK
              go_wp2
              go_roundw
              case rel => exact ⟨k + 1, by omega, by go_num, by rw [HTK.out], HM5.out, HG5.out⟩
              case measure => (simp [intOf] <;> omega)
        · have hke : k = m := by omega
          subst hke
          have HL := hide (show minOf (legOf rows home at_ set) ((els set).take k) = tour rows home at_ set by rw [take_len HM.out]; exact HT.out.symm)
          obtain ⟨w6, hrun, hm6, hg6⟩ := HMR.out.store hai10 hs ⟨HTB.out.1, by have := HTB.out.2; omega⟩
          rw [HL.out]
          unfold keyV at hrun
          have HM6 := hide hm6
          have HG6 := hide (HGR.out.trans hg6)
          clear hm6 hg6 HL
          generalize hTT : tour rows home at_ set = TT at *
          have HTT := hide hTT
          clear hTT
          go_wp2
          go_ret
          exact ⟨by first | rfl | (rw [HTT.out]; rfl), HM6.out, (HE1.out.to_grown (some b)).trans HG6.out⟩
    · unfold keyV at hlk
      generalize hTT : tour rows home at_ set = TT at *
      have HTT := hide hTT
      clear hTT
      go_enter Try.func129, Try.ntmps129
      go_wp2
      go_ret
      exact ⟨rfl, HMM.out, grown_refl _ _⟩

end Go.Proofs.Ytbaljgdepicigaa
