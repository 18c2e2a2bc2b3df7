/-
  A range over a function whose closures keep a slice of their own: what the iterator promises, and the law of the statement.
-/
import Derived.RangeFuncIn
import Derived.RangeFuncRecord
import Derived.RangeFuncLeaves
import Derived.RangeFuncSeq
import Derived.TacticsInMore
import Derived.LoopIn
import Derived.BigFrameIn
import Derived.OwnWalkIn
import Derived.Test.YtbaljgdepicigaaBase
import Derived.Test.YtbaljgdepicigaaMathA
namespace Go.Proofs.Ytbaljgdepicigaa
open Go.RowKit
set_option linter.unusedVariables false

/-- What a round may turn: blocks from lo to hi, and the loop's record. -/
structure Rnd (lo hi l : Nat) (w w' : World) : Prop where
  os : w'.os = w.os
  tape : w'.tape = w.tape
  output : w'.output = w.output
  size : w.heap.size ≤ w'.heap.size
  block : ∀ k, k < w.heap.size → ¬ (lo ≤ k ∧ k < hi) → k ≠ l → w'.heap[k]? = w.heap[k]?
theorem Rnd.trans {lo hi l : Nat} {a b c : World} (h : Rnd lo hi l a b) (k : Rnd lo hi l b c) : Rnd lo hi l a c :=
  ⟨k.os.trans h.os, k.tape.trans h.tape, k.output.trans h.output, Nat.le_trans h.size k.size, fun i hi h1 h2 => (k.block i (Nat.lt_of_lt_of_le hi h.size) h1 h2).trans (h.block i hi h1 h2)⟩
theorem Rnd.of_only {lo hi l : Nat} {a b : World} (h : Only lo hi a b) : Rnd lo hi l a b := ⟨h.os, h.tape, h.output, h.size, fun k hk h1 _ => h.block k hk h1⟩
theorem Rnd.putObj (lo hi l : Nat) (w : World) (o : Obj) : Rnd lo hi l w (w.putObj l o) := ⟨rfl, rfl, rfl, by simp, fun k _ _ h => World.putObj_heap_other h⟩
theorem below_putObj (w : World) {B l : Nat} (o : Obj) (h : B ≤ l) : Below B w (w.putObj l o) := ⟨rfl, rfl, rfl, by simp, fun k hk => World.putObj_heap_other (by omega)⟩
theorem only_putObj (w : World) {lo hi l : Nat} (o : Obj) (h : lo ≤ l) (h2 : l < hi) : Only lo hi w (w.putObj l o) := ⟨rfl, rfl, rfl, by simp, fun k hk hn => World.putObj_heap_other (by omega)⟩
theorem cell_of_noncells {w : World} {p : Addr} {o : Obj} (h : w.heap[p.block]? = some o) (ho : ∀ cur t z, o ≠ .cells cur t z) : w.cell? p = none := by
  unfold World.cell?
  rw [h]
  cases o <;> first | rfl | exact absurd rfl (ho _ _ _)
theorem Ints.putObj {w : World} {A : Option Addr} {n c l : Nat} {xs : List Int} {r r' : Loop} (h : Ints w A n c xs) (hl : w.heap[l]? = some (.loop r)) : Ints (w.putObj l (.loop r')) A n c xs :=
  ⟨h.rd.keep (by simp) fun p _ _ => by
    by_cases e : p.block = l
    · rw [cell_of_noncells (w := w) (p := p) (o := .loop r) (by rw [e]; exact hl) (fun _ _ _ h => by cases h), cell_of_noncells (w := w.putObj l (.loop r')) (p := p) (o := .loop r') (by rw [e]; exact World.putObj_heap_same (Array.getElem?_eq_some_iff.1 hl).1) (fun _ _ _ h => by cases h)]
    · exact World.cell?_of_block (World.putObj_heap_other e), h.wf⟩

/-- The iterator's closure g hands each list of L to yield, one after the other, and stops where a round has said no. A round may turn blocks from lo to hi. -/
def Gives (P : Program) (g : Nat) (lb : Array Value) (L : List (List Int)) (lo hi : Nat) (w : World) : Prop :=
  ∀ (n l : Nat) (J : List (List Int) → World → Prop) (Jx : Nat → List (List Int) → World → Prop) (W : World), Ext w W → w.heap.size ≤ l → l < W.heap.size →
    (∀ pre W1 W2, J pre W1 → Below W.heap.size W1 W2 → J pre W2) →
    (∀ S pre W1 W2, Jx S pre W1 → Only W.heap.size S W1 W2 → Jx S pre W2) →
    (∀ pre x A c W1, J pre W1 → pre ++ [x] <+: L → Ints W1 A x.length c x → W.heap.size ≤ W1.heap.size →
      YieldAt Fence.wide n P l #[.slice A x.length c] W1 fun e W2 => Rnd lo hi l W1 W2 ∧ ((e = .returned (.bool true) ∧ J (pre ++ [x]) W2) ∨ (e = .returned (.bool false) ∧ Jx W1.heap.size (pre ++ [x]) W2))) →
    J [] W →
    Calls P g (#[.func (.yield l) #[] #[]] ++ lb) W fun e W2 => (∃ v, e = .returned v) ∧ (J L W2 ∨ ∃ S pre x, pre ++ [x] <+: L ∧ Jx S (pre ++ [x]) W2)

/-- How a body may be left: it goes on, or returns. -/
def bodyEnd (lo hi : Nat) (I : List (List Int) → World → Prop) (Ix : Nat → List (List Int) → World → Prop) (xs : List (List Int)) (W : World) : Exit → Act → World → Prop
  | .normal, _, W' => Only lo hi W W' ∧ I xs W'
  | .ret, _, W' => Only lo hi W W' ∧ Ix W.heap.size xs W'
  | _, _, _ => False

theorem wp_range {P : Program} {g : Operand} {ps : Array Tmp} {assign body : Code} {Q : Exit → Act → World → Prop} {a : Act} {w : World} {gf : Nat} {lb : Array Value} {L : List (List Int)} {lo hi : Nat}
    (hG : Gives P gf lb L lo hi w) (hg : a.eval g = .func (.func gf) #[] lb) (eg : ∀ args w, (callFunc gf args).run P w = .ok (.enter gf args) w) (hps : ps.size = 1) (hhi : hi ≤ w.heap.size)
    (I : List (List Int) → World → Prop) (Ix : Nat → List (List Int) → World → Prop)
    (hI : ∀ pre W1 W2, I pre W1 → Below w.heap.size W1 W2 → I pre W2)
    (hIx : ∀ S pre W1 W2, Ix S pre W1 → Only w.heap.size S W1 W2 → Ix S pre W2)
    (h0 : I [] w)
    (hbody : ∀ (l m : Nat) (pre : List (List Int)) (x : List Int) (A : Option Addr) (c : Nat) (W1 W2 : World), I pre W2 → pre ++ [x] <+: L → Ints W2 A x.length c x → w.heap.size < W2.heap.size →
      assign.wpIn (Fence.wide.inRound l) m P (Exit.then (fun a₁ W' => W' = W1 ∧ body.wpIn (Fence.wide.inRound l) m P (bodyEnd lo hi I Ix (pre ++ [x]) W2) a₁ W2) (fun _ _ _ => False))
        { tmps := (ps.zip #[.slice A x.length c]).foldl (fun t (p, v) => t.setIfInBounds p v) a.tmps, defers := [] } W1)
    (hdone : ∀ (D : Nat) (W : World), I L W → w.heap.size ≤ D → W.heap[D]? = some (.deferred (some [])) → Q .normal { a with defers := { target := .collected D, args := #[] } :: a.defers } W)
    (hstop : ∀ (D S : Nat) (pre : List (List Int)) (x : List Int) (W : World), pre ++ [x] <+: L → Ix S (pre ++ [x]) W → w.heap.size ≤ D → W.heap[D]? = some (.deferred (some [])) → Q .ret { a with defers := { target := .collected D, args := #[] } :: a.defers } W) :
    (Code.rangeFunc g ps assign body).wp P Q a w := by
  refine (wpIn_wide (n := 1)).1 (wpIn_rangeFunc ?_)
  intro fn hfn
  obtain ⟨rec, hrec⟩ : ∃ rec : LoopState → Option Code → Loop, rec = fun st pe => { state := st, pending := pe, fn, tmps := a.tmps, params := ps, assign, body, defers := w.heap.size } := ⟨_, rfl⟩
  obtain ⟨W0, hW0⟩ : ∃ W0, (w.alloc (.deferred (some []))).alloc (.loop (rec .ready none)) = W0 := ⟨_, rfl⟩
  have hs0 : W0.heap.size = w.heap.size + 2 := by rw [← hW0]; simp
  have hL0 : W0.heap[w.heap.size + 1]? = some (.loop (rec .ready none)) := by
    rw [← hW0]; have := World.alloc_heap_new (w.alloc (.deferred (some []))) (.loop (rec .ready none)); rwa [World.size_alloc] at this
  have hD0 : W0.heap[w.heap.size]? = some (.deferred (some [])) := by
    rw [← hW0]; exact (Below.heap_alloc _ _ _ (by simp)).trans (World.alloc_heap_new w _)
  have hB0 : Below w.heap.size w W0 := by rw [← hW0]; exact ((Below.refl _ w).alloc (Nat.le_refl _) _).alloc (by simp) _
  refine ⟨w.heap.size + 1, [{ target := .collected w.heap.size, args := #[] }], W0, { target := .fn (.func gf) lb, args := #[.func (.yield (w.heap.size + 1)) #[] #[]] }, W0, gf,
    #[.func (.yield (w.heap.size + 1)) #[] #[]] ++ lb, W0, ?_, ?_, ?_, ?_, fun _ => Nat.le_refl _, ?_⟩
  · rw [← hW0, hrec]; exact run_enterLoop_outer _ _ _ _ _
  · simp only [resolve, hg]
    simp [go_sem]
  · intro f' _; trivial
  · simp [invoke, go_sem, eg]
  · refine (callsIn_wide.2 (hG 0 (w.heap.size + 1)
      (fun pre W => I pre W ∧ W.heap[w.heap.size + 1]? = some (.loop (rec .ready none)) ∧ W.heap[w.heap.size]? = some (.deferred (some [])))
      (fun S pre W => w.heap.size + 2 ≤ S ∧ Ix S pre W ∧ W.heap[w.heap.size + 1]? = some (.loop (rec .done (some .ret))) ∧ W.heap[w.heap.size]? = some (.deferred (some [])))
      W0 hB0 (by omega) (by omega) ?_ ?_ ?_ ⟨hI _ _ _ h0 hB0, hL0, hD0⟩)).mono ?_
    · rintro pre W1 W2 ⟨h1, h2, h3⟩ hb
      rw [hs0] at hb
      exact ⟨hI _ _ _ h1 (hb.mono (by omega)), (hb.block _ (by omega)).trans h2, (hb.block _ (by omega)).trans h3⟩
    · rintro S pre W1 W2 ⟨h0, h1, h2, h3⟩ ho
      rw [hs0] at ho
      exact ⟨h0, hIx _ _ _ _ h1 (ho.mono (by omega) (Nat.le_refl _)), (ho.block _ (Array.getElem?_eq_some_iff.1 h2).1 (by omega)).trans h2, (ho.block _ (Array.getElem?_eq_some_iff.1 h3).1 (by omega)).trans h3⟩
    · rintro pre x A c W1 ⟨hi1, hl1, hd1⟩ hpre hx hsz
      have hlt : w.heap.size + 1 < W1.heap.size := (Array.getElem?_eq_some_iff.1 hl1).1
      have hy := run_yield (P := P) (args := #[.slice A x.length c]) hl1 (by rw [hrec]; simp [hps])
      rw [hrec] at hy
      refine ⟨fn, _, assign, body, hy, roundIn_of_wpIn hfn ?_⟩
      obtain ⟨W2, hW2⟩ : ∃ W2, W1.putObj (w.heap.size + 1) (.loop { rec .ready none with state := .busy }) = W2 := ⟨_, rfl⟩
      have hR2 : Rnd lo hi (w.heap.size + 1) W1 W2 := by rw [← hW2]; exact Rnd.putObj _ _ _ _ _
      have hl2 : W2.heap[w.heap.size + 1]? = some (.loop { rec .ready none with state := .busy }) := by rw [← hW2]; exact World.putObj_heap_same hlt
      have hd2 : W2.heap[w.heap.size]? = some (.deferred (some [])) := by rw [← hW2]; exact (World.putObj_heap_other (by omega)).trans hd1
      have hi2 : I pre W2 := by rw [← hW2]; exact hI _ _ _ hi1 (below_putObj _ _ (by omega))
      have hx2 : Ints W2 A x.length c x := by rw [← hW2]; exact hx.putObj hl1
      have hsz2 : W2.heap.size = W1.heap.size := by rw [← hW2]; simp
      refine wpIn_mono (hbody (w.heap.size + 1) _ pre x A c W1 W2 hi2 hpre hx2 (by omega)) ?_
      rintro e0 a0 W0' hp0
      cases e0 with
      | exit id => exact hp0.elim
      | goto t => exact hp0.elim
      | ret => exact hp0.elim
      | panic ch => exact hp0.elim
      | outgrown => exact hp0.elim
      | normal =>
      obtain ⟨hw0, hp0⟩ := hp0
      have hw1 := hw0.symm
      subst hw1
      refine ⟨_, run_beginRound hl1 (by rw [hrec]), ?_⟩
      rw [hW2]
      refine wpIn_mono hp0 ?_
      have fin : ∀ (jump : Option Code) (W3 : World), Only lo hi W2 W3 →
          (Instr.endRound (w.heap.size + 1) jump).run P W3 = .ok (.bool jump.isNone) (W3.putObj (w.heap.size + 1) (.loop (rec (if jump.isNone then .ready else .done) jump))) ∧
          (W3.putObj (w.heap.size + 1) (.loop (rec (if jump.isNone then .ready else .done) jump))).heap[w.heap.size + 1]? = some (.loop (rec (if jump.isNone then .ready else .done) jump)) ∧
          (W3.putObj (w.heap.size + 1) (.loop (rec (if jump.isNone then .ready else .done) jump))).heap[w.heap.size]? = some (.deferred (some [])) ∧ w.heap.size + 1 < W3.heap.size ∧
          Rnd lo hi (w.heap.size + 1) W1 (W3.putObj (w.heap.size + 1) (.loop (rec (if jump.isNone then .ready else .done) jump))) := fun jump W3 ho => by
        have hl3 : W3.heap[w.heap.size + 1]? = some (.loop { rec .ready none with state := .busy }) := (ho.block _ (Array.getElem?_eq_some_iff.1 hl2).1 (by omega)).trans hl2
        have hd3 : W3.heap[w.heap.size]? = some (.deferred (some [])) := (ho.block _ (Array.getElem?_eq_some_iff.1 hd2).1 (by omega)).trans hd2
        have he := run_endRound (P := P) jump hl3
        rw [hrec] at he ⊢
        exact ⟨he, World.putObj_heap_same (Array.getElem?_eq_some_iff.1 hl3).1, (World.putObj_heap_other (by omega)).trans hd3, (Array.getElem?_eq_some_iff.1 hl3).1, (hR2.trans (Rnd.of_only ho)).trans (Rnd.putObj _ _ _ _ _)⟩
      rintro e a3 W3 hp
      cases e with
      | normal =>
        obtain ⟨ho, hi3⟩ := hp
        obtain ⟨hr, hl4, hd4, _, hR⟩ := fin none W3 ho
        exact ⟨_, _, hr, hR, .inl ⟨rfl, hI _ _ _ hi3 (below_putObj _ _ (by omega)), hl4, hd4⟩⟩
      | ret =>
        obtain ⟨ho, hi3⟩ := hp
        obtain ⟨hr, hl4, hd4, hlt3, hR⟩ := fin (some .ret) W3 ho
        rw [hsz2] at hi3
        exact ⟨_, _, hr, hR, .inr ⟨rfl, by omega, hIx _ _ _ _ hi3 (only_putObj _ _ (by omega) (by omega)), hl4, hd4⟩⟩
      | exit id => exact hp.elim
      | goto t => exact hp.elim
      | panic ch => exact hp.elim
      | outgrown => exact hp.elim
    · rintro e W2 ⟨⟨v, rfl⟩, (⟨hi, hl, hd⟩ | ⟨S, pre, x, hpre, hS, hi, hl, hd⟩)⟩
      · exact ⟨none, _, by have := run_endLoop (P := P) hl (by rw [hrec]; simp); rw [hrec] at this; exact this, hdone _ _ (hI _ _ _ hi (below_putObj _ _ (by omega))) (Nat.le_refl _) ((World.putObj_heap_other (by omega)).trans hd)⟩
      · refine ⟨some .ret, _, by have := run_endLoop (P := P) hl (by rw [hrec]; simp); rw [hrec] at this; exact this, ?_⟩
        exact wpIn_ret (hstop _ S pre x _ hpre (hIx _ _ _ _ hi (only_putObj _ _ (by omega) (by omega))) (Nat.le_refl _) ((World.putObj_heap_other (by omega)).trans hd))
/-- A function that holds a range over a function. -/
theorem calls_marks {P : Program} {f : FuncId} {fn : Func} {c : Code} {args : Array Value} {w : World} {R : Ending → World → Prop} (hf : P.funcs[f]? = some fn) (hb : fn.body = some c)
    (h : c.wp P (bodyPostM Fence.wide 1 P fn R) { tmps := args ++ Array.replicate (fn.ntmps - args.size) undef, defers := [] } w) : Calls P f args w R :=
  (callsIn_wide (n := 1)).1 (callsIn_of_wp_marks hf hb trivial (wpIn_wide.2 h))
-- rounds of memory
theorem Rnd.cell {lo hi l : Nat} {w w' : World} (h : Rnd lo hi l w w') {k o : Nat} {v : Value} (hc : w.cell? ⟨k, o, none⟩ = some v) (h1 : ¬ (lo ≤ k ∧ k < hi)) (h2 : k ≠ l) : w'.cell? ⟨k, o, none⟩ = some v :=
  (World.cell?_of_block (w := w) (a := ⟨k, o, none⟩) (h.block k (World.block_lt_of_cell? w ⟨k, o, none⟩ hc) h1 h2)).trans hc
theorem Ints.rnd {lo hi l : Nat} {w w' : World} {A : Option Addr} {n c : Nat} {xs : List Int} (hx : Ints w A n c xs) (h : Rnd lo hi l w w') (ha : ∀ k, A.map (·.block) = some k → ¬ (lo ≤ k ∧ k < hi) ∧ k ≠ l) : Ints w' A n c xs :=
  ⟨hx.rd.keep h.size fun p hp hb => World.cell?_of_block (h.block p.block hb (ha _ hp).1 (ha _ hp).2), hx.wf⟩
theorem OwI.rnd {lo hi l base : Nat} {w w' : World} {A : Option Addr} {n c : Nat} {xs : List Int} (hx : OwI w base A n c xs) (h : Rnd lo hi l w w') (ha : ∀ k, A.map (·.block) = some k → ¬ (lo ≤ k ∧ k < hi) ∧ k ≠ l) : OwI w' base A n c xs :=
  ⟨hx.ow.keep fun k hk => h.block k (hx.block k hk).2 (ha k hk).1 (ha k hk).2, hx.wf⟩
theorem below_store (w : World) {B q k : Nat} (v : Value) (h : B ≤ q) : Below B w (w.setCell ⟨q, k, none⟩ v) := (Below.refl B w).setCell (p := ⟨q, k, none⟩) h v
theorem only_store (w : World) {B S q k : Nat} (v : Value) (h : B ≤ q) (h2 : q < S) : Only B S w (w.setCell ⟨q, k, none⟩ v) := Only.of_grown (grown_setCell w ⟨q, k, none⟩ v) fun j e => by cases e; exact ⟨h, h2⟩
theorem only_drew (w : World) (B S : Nat) : Only B S w w.drew := ⟨rfl, rfl, rfl, Nat.le_refl _, fun _ _ _ => rfl⟩
/-- A function value goes into a box that has just come. -/
theorem store_new (w : World) (x y v : Value) (t u : TypeId) (hv : v.oneCell' = true) :
    (store ⟨w.heap.size + 1, 0, none⟩ v).run Try.prog ((w.alloc (.cells #[x] t)).alloc (.cells #[y] u)) = .ok () (((w.alloc (.cells #[x] t)).alloc (.cells #[y] u)).setCell ⟨w.heap.size + 1, 0, none⟩ v) := by
  have h := heap_alloc_new (w.alloc (.cells #[x] t)) (.cells #[y] u)
  rw [World.size_alloc] at h
  have hc : ((w.alloc (.cells #[x] t)).alloc (.cells #[y] u)).cell? ⟨w.heap.size + 1, 0, none⟩ = some y := by rw [cell_of_row _ _ 0 _ _ _ h]; rfl
  have hf : ((w.alloc (.cells #[x] t)).alloc (.cells #[y] u)).frozen? ⟨w.heap.size + 1, 0, none⟩ = false := by unfold World.frozen?; simp only [h]; rfl
  rw [run_store _ _ _ _ _ hv, hc]
  simp [hf]

end Go.Proofs.Ytbaljgdepicigaa
