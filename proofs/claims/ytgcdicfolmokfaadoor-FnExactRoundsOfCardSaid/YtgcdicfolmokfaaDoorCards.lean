/-
  DERIVED. GIVEN WITH THE SEED: THE CARDS: each row of YtgcdicfolmokfaaDoorRows.lean that lists a variable, with what it lists TIED to the program's text (the seventh form; the later family's looks); each row that meets fmt, with fmt's text TOLD by the authors' own Lean function (tested against real Go, not proved from fmt's source: count such statements apart). THE CARD IS WHAT COUNTS. Prove the row's statement (the work); the ties are given (YtgcdicfolmokfaaDoorTie.lean); close each card by the builder's one call (the guide's Derived/Test/ToyasCard.lean, 'card_holds'). Laid BY PROGRAM, IN A SANDBOX (cutbox-door.mjs). By AI agents, Wed Nov 11 2026. No macro, syntax, notation, axiom, sorry.
-/
import Derived.Test.YtgcdicfolmokfaaDoorRows
import GoSem.ClaimSeven
namespace Go.Proofs.YtgcdicfolmokfaaDoor
namespace Rows

/-- THE TIED CARD OF 'laws.FnExactRoundsOf'. -/
def fnExactRoundsOfCard : Claim7 := { stood := { row := fnExactRoundsOfRow, standIns := [], harness := (true, "f19a2475e10f8f5fe6fbf521d70a099a58de32dff1360609689631fe49fbb4a3"), looks := false }, kinds := [], alts := [], laidByText := true, laidKinds := [.data, .data], laidTests := true, laidLooks := .later }
def FnExactRoundsOfCardSaid : Prop := Claim7.holds Tryd.pinned (.plain (OpenSpec.ofChange fnExactRoundsOfSpec)) fnExactRoundsOfCard

/-- THE SECOND FORM's CARD OF 'laws.FnExactRoundsOf'. -/
def fnExactRoundsOfUptoCard : Claim7 := { stood := { row := fnExactRoundsOfUptoRow, standIns := [], harness := (true, "f19a2475e10f8f5fe6fbf521d70a099a58de32dff1360609689631fe49fbb4a3"), looks := false }, kinds := [], alts := [], laidByText := true, laidKinds := [.data, .data], laidTests := true, laidLooks := .later }
def FnExactRoundsOfUptoCardSaid : Prop := Claim7.holds Tryd.pinned (.plain (OpenSpec.upto fnExactRoundsOfSpec)) fnExactRoundsOfUptoCard
end Rows
end Go.Proofs.YtgcdicfolmokfaaDoor
