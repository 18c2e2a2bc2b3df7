/-
  DERIVED. GIVEN WITH THE SEED: THE CARDS: each row of YtbaljgdepicigaaDoorRows.lean that lists a variable, with what it lists TIED to the program's text (the seventh form; the later family's looks); each row that meets fmt, with fmt's text TOLD by the authors' own Lean function (tested against real Go, not proved from fmt's source: count such statements apart). THE CARD IS WHAT COUNTS. Prove the row's statement (the work); the ties are given (YtbaljgdepicigaaDoorTie.lean); close each card by the builder's one call (the guide's Derived/Test/ToyasCard.lean, 'card_holds'). Laid BY PROGRAM, IN A SANDBOX (cutbox-door.mjs). By AI agents, Wed Nov 11 2026. No macro, syntax, notation, axiom, sorry.
-/
import Derived.Test.YtbaljgdepicigaaDoorRows
import GoSem.ClaimSeven
namespace Go.Proofs.YtbaljgdepicigaaDoor
namespace Rows

/-- THE TIED CARD OF 'laws.FnFixing'. -/
def fnFixingCard : Claim7 := { stood := { row := fnFixingRow, standIns := [], harness := (true, "a2f1b5b6fb2582b3aace278b716faa583b67a40542709e0287122ef1c15598c1"), looks := false }, kinds := [], alts := [], laidByText := true, laidKinds := [.data, .data], laidTests := true, laidLooks := .later }
def FnFixingCardSaid : Prop := Claim7.holds Tryd.pinned (.plain (OpenSpec.ofChange fnFixingSpec)) fnFixingCard

/-- THE TIED CARD OF 'laws.FnBrackets'. -/
def fnBracketsCard : Claim7 := { stood := { row := fnBracketsRow, standIns := [], harness := (true, "a2f1b5b6fb2582b3aace278b716faa583b67a40542709e0287122ef1c15598c1"), looks := false }, kinds := [], alts := [], laidByText := true, laidKinds := [.data, .data], laidTests := true, laidLooks := .later }
def FnBracketsCardSaid : Prop := Claim7.holds Tryd.pinned (.plain (OpenSpec.ofChange fnBracketsSpec)) fnBracketsCard

/-- THE SECOND FORM's CARD OF 'laws.FnFixing'. -/
def fnFixingUptoCard : Claim7 := { stood := { row := fnFixingUptoRow, standIns := [], harness := (true, "a2f1b5b6fb2582b3aace278b716faa583b67a40542709e0287122ef1c15598c1"), looks := false }, kinds := [], alts := [], laidByText := true, laidKinds := [.data, .data], laidTests := true, laidLooks := .later }
def FnFixingUptoCardSaid : Prop := Claim7.holds Tryd.pinned (.plain (OpenSpec.upto fnFixingSpec)) fnFixingUptoCard

/-- THE SECOND FORM's CARD OF 'laws.FnBrackets'. -/
def fnBracketsUptoCard : Claim7 := { stood := { row := fnBracketsUptoRow, standIns := [], harness := (true, "a2f1b5b6fb2582b3aace278b716faa583b67a40542709e0287122ef1c15598c1"), looks := false }, kinds := [], alts := [], laidByText := true, laidKinds := [.data, .data], laidTests := true, laidLooks := .later }
def FnBracketsUptoCardSaid : Prop := Claim7.holds Tryd.pinned (.plain (OpenSpec.upto fnBracketsSpec)) fnBracketsUptoCard
end Rows
end Go.Proofs.YtbaljgdepicigaaDoor
