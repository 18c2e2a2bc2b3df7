/-
  Contract of the reference's function that gives the places of a double elimination.
-/
import Derived.Laws.ShiftsVar
import Derived.Deep.RegionHeld3
import Derived.Test.YtbaljgdepicigaaBase
import Derived.Test.YtbaljgdepicigaaMathA
import Derived.Test.YtbaljgdepicigaaMathD
import Derived.Test.YtbaljgdepicigaaLib
import Derived.Test.YtbaljgdepicigaaAid
import Derived.Test.YtbaljgdepicigaaStep
import Derived.Test.YtbaljgdepicigaaGrid
import Derived.Test.YtbaljgdepicigaaLibF
import Derived.Test.YtbaljgdepicigaaMathB
import Derived.Test.YtbaljgdepicigaaMathU
import Derived.Test.YtbaljgdepicigaaMathW
import Derived.Test.YtbaljgdepicigaaMathZ
import Derived.Test.YtbaljgdepicigaaMathY
import Derived.Test.YtbaljgdepicigaaPop
import Derived.Test.YtbaljgdepicigaaMathG
import Derived.Test.YtbaljgdepicigaaMathX
import Derived.Test.YtbaljgdepicigaaMathL
import Derived.Test.YtbaljgdepicigaaMathN
import Derived.Test.YtbaljgdepicigaaDblA
import Derived.Test.YtbaljgdepicigaaSeed
import Derived.Test.YtbaljgdepicigaaTour
import Derived.Test.YtbaljgdepicigaaTourB
import Derived.Test.YtbaljgdepicigaaDblB
import Derived.Test.YtbaljgdepicigaaDblD
import Derived.Test.YtbaljgdepicigaaDblC
import Derived.Test.YtbaljgdepicigaaDblE
import Derived.Test.YtbaljgdepicigaaDblF
namespace Go.Proofs.Ytbaljgdepicigaa
open Go.RowKit
set_option linter.unusedVariables false

-- words of places
theorem DbI.withG {w w' : World} {base : Nat} {A1 A2 A4 : Option Addr} {n1 c1 n2 c2 n4 c4 : Nat} {f s : List Int} {g : List (List Int)} (hb : base ≤ w.heap.size) (h1 : OwI w base A1 n1 c1 f) (h2 : OwI w base A2 n2 c2 s) (ha : Ap (bl A1) (bl A2)) (hE : Ext w w')
    (hG : OwG w' w.heap.size w'.heap.size A4 n4 c4 g) : DbI w' base A1 A2 none A4 none n1 c1 n2 c2 0 0 n4 c4 0 0 f s [] [] g := by
  obtain ⟨hs, hG⟩ := hG
  have fre : ∀ b, (∀ k, b = some k → k < w.heap.size) → Fre A4 hs b := fun b hb => ⟨fun k e e2 => by have := hb k e; have := (hG.ow.block k e2).1; omega, fun i z hz k e e2 => by
    have hi : i < g.length := by rw [← hG.hl]; exact (List.getElem?_eq_some_iff.1 hz).1
    have := ((hG.row i z _ hz (List.getElem?_eq_getElem hi)).ow.block k e2).1
    have := hb k e
    omega⟩
  exact ⟨by have := hE.size; omega, h1.ext hE, h2.ext hE, OwI.nil _ _, OwI.nil _ _, ha, (Ap.no _).symm, (Ap.no _).symm, (Ap.no _).symm, (Ap.no _).symm, Ap.no _, hs, ⟨hG.ow.mono hb, hG.top, hG.hl, fun i x r hx hr => (hG.row i x r hx hr).mono hb (Nat.le_refl _), hG.apart⟩, fre _ h1.lt, fre _ h2.lt, ⟨Ap.no _, fun i z _ => Ap.no _⟩, ⟨Ap.no _, fun i z _ => Ap.no _⟩⟩
theorem DbI.row1 {w : World} {base : Nat} {A1 A2 A3 A4 A5 : Option Addr} {n1 c1 n2 c2 n3 c3 n4 c4 n5 c5 : Nat} {f s p x : List Int} {g : List (List Int)} (h : DbI w base A1 A2 A3 A4 A5 n1 c1 n2 c2 n3 c3 n4 c4 n5 c5 f s p x g) {k : Nat} (hk : k < n4) :
    ∃ b off B d r, A4 = some ⟨b, off, none⟩ ∧ b < w.heap.size ∧ g[k]? = some r ∧ w.cell? ⟨b, off + k, none⟩ = some (.slice B r.length d) ∧ Ints w B r.length d r ∧ Ap (bl A1) (bl B) := by
  obtain ⟨hs, h1, h2, _⟩ := h.g
  have hg := h1.grid
  obtain ⟨b, off, v, e, hb, hv, hc⟩ := hg.rd.get hk
  rw [List.getElem?_map] at hv
  have hkr : k < g.length := by rw [hg.len]; exact hk
  have hkh : k < hs.length := by rw [hg.hl]; exact hkr
  rw [List.getElem?_eq_getElem hkh] at hv
  simp at hv
  have hr := hg.row k hs[k] g[k] (List.getElem?_eq_getElem hkh) (List.getElem?_eq_getElem hkr)
  have hln := hr.len
  refine ⟨b, off, hs[k].1, hs[k].2.2, g[k], e, hb, List.getElem?_eq_getElem hkr, ?_, by rw [hln]; exact hr, h2.2 k _ (List.getElem?_eq_getElem hkh)⟩
  rw [hc, ← hv, hln]; rfl
theorem outTo_len (g : List (List Int)) (k : Nat) : (outTo g k).length ≤ k := by
  induction k with
  | zero => simp [outTo]
  | succ k ih => simp only [outTo]; split <;> (try simp only [List.length_cons]) <;> omega
theorem finTo_len (g : List (List Int)) (o : List Int) (k : Nat) : (finTo g o k).length ≤ o.length + k := by
  induction k with
  | zero => simp [finTo]
  | succ k ih => simp only [finTo]; split <;> (try simp only [List.length_cons]) <;> omega
theorem loss_le (g : List (List Int)) (k : Nat) (a : Int) : lossOf (g.take k) a ≤ g.length := by
  unfold lossOf
  have h1 := List.countP_le_length (p := fun x : List Int => x.getD 1 0 == a) (l := g.take k)
  have h2 : (g.take k).length ≤ g.length := by simp; omega
  omega
theorem finTo_step (g : List (List Int)) (o : List Int) (k : Nat) : finTo g o (k + 1) = if lossOf g k < 2 then (k : Int) :: finTo g o k else finTo g o k := rfl

end Go.Proofs.Ytbaljgdepicigaa
