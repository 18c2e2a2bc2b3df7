/-
  No cell of these rows narrows 'for every input' (looked for: loops, veiled, ifaces, maps, wideKeys, modest, calm, conditions, laid).
  DERIVED. THE GIVEN ROWS OF THIS SEAT. 7 by the template 'for every input the law returns true; each argument reads behind the call as it read before'; 0 by the template 'total and deterministic' (their statements: YtcncljiahgjbaaaTotals.lean).
  GIVEN WITH THE SEED: the statements are not yours to turn. If you find one false, say at which input.
  Laid BY PROGRAM, IN A SANDBOX (cutbox-rows.mjs): the forced cells as the released guide's own fill.sh prints them over the translation db36077e0096f604… (all of the seat's roots in one cut). By AI agents, Wed Nov 11 2026. No macro, syntax, notation, axiom, sorry.
-/
import Derived.Test.YtcncljiahgjbaaaChecked
import GoSem.Claim
import GoSem.ClaimJoined
import GoSem.ClaimMapViews
import Derived.JoinedTies
import Derived.KernelRfl
namespace Go.Proofs.Ytcncljiahgjbaaa
/- THE CELL 'sum', in the pinned program and in every row, IS THE sha256 OF THE DUMP (.gsa) THAT YtcncljiahgjbaaaProg.lean LOADS. Nothing in Lean hashes anything: it is a label: what it is worth is what the hold of that sum in a sandbox is worth. -/
noncomputable def Try.pinned : Pinned := { name := "ytcncljiahgjbaaa", sum := "db36077e0096f60451e24e8e31ce566a6a627491b40c73b7ffb5eb87dc73f3be", checked := Try.checked }
namespace Rows
def none {H : Type} : Left H := { results := [], args := [] }

/-- 'laws.FnExactIsStrongKing': WHATEVER THE INPUT: true; the input reads as it did. -/
def fnExactIsStrongKingSpec : ChangeSpec := { name := "fnExactIsStrongKing", fn := fun _ => fun
  | [d1, d2] => { results := [.lit (.bool true)], args := [d1, d2] }
  | _ => none }
def fnExactIsStrongKingRow : OpenClaim := { program := "ytcncljiahgjbaaa", sum := "db36077e0096f60451e24e8e31ce566a6a627491b40c73b7ffb5eb87dc73f3be", func := "loop.example/g03205/laws.FnExactIsStrongKing", spec := "fnExactIsStrongKing", unfollowed := true, recurses := true, apart := false }
def FnExactIsStrongKingSaid : Prop := fnExactIsStrongKingRow.holds Try.pinned (OpenSpec.ofChange fnExactIsStrongKingSpec)

/-- ITS FALSE NEIGHBOUR: 'it returns false'. Refute it at one input. -/
def fnExactIsStrongKingWrong : ChangeSpec := { name := "fnExactIsStrongKing", fn := fun _ => fun
  | [d1, d2] => { results := [.lit (.bool false)], args := [d1, d2] }
  | _ => none }
def FnExactIsStrongKingWrongFalsely : Prop := fnExactIsStrongKingRow.holds Try.pinned (OpenSpec.ofChange fnExactIsStrongKingWrong)

/-- 'laws.FnExactPossibleWinners': WHATEVER THE INPUT: true; the input reads as it did. -/
def fnExactPossibleWinnersSpec : ChangeSpec := { name := "fnExactPossibleWinners", fn := fun _ => fun
  | [d] => { results := [.lit (.bool true)], args := [d] }
  | _ => none }
def fnExactPossibleWinnersRow : OpenClaim := { program := "ytcncljiahgjbaaa", sum := "db36077e0096f60451e24e8e31ce566a6a627491b40c73b7ffb5eb87dc73f3be", func := "loop.example/g03205/laws.FnExactPossibleWinners", spec := "fnExactPossibleWinners", unfollowed := true, recurses := true, apart := false }
def FnExactPossibleWinnersSaid : Prop := fnExactPossibleWinnersRow.holds Try.pinned (OpenSpec.ofChange fnExactPossibleWinnersSpec)

/-- ITS FALSE NEIGHBOUR: 'it returns false'. Refute it at one input. -/
def fnExactPossibleWinnersWrong : ChangeSpec := { name := "fnExactPossibleWinners", fn := fun _ => fun
  | [d] => { results := [.lit (.bool false)], args := [d] }
  | _ => none }
def FnExactPossibleWinnersWrongFalsely : Prop := fnExactPossibleWinnersRow.holds Try.pinned (OpenSpec.ofChange fnExactPossibleWinnersWrong)

/-- 'laws.FnExactWinnersOf': WHATEVER THE INPUT: true; the input reads as it did. -/
def fnExactWinnersOfSpec : ChangeSpec := { name := "fnExactWinnersOf", fn := fun _ => fun
  | [d1, d2] => { results := [.lit (.bool true)], args := [d1, d2] }
  | _ => none }
def fnExactWinnersOfRow : OpenClaim := { program := "ytcncljiahgjbaaa", sum := "db36077e0096f60451e24e8e31ce566a6a627491b40c73b7ffb5eb87dc73f3be", func := "loop.example/g03205/laws.FnExactWinnersOf", spec := "fnExactWinnersOf", unfollowed := true, recurses := true, apart := false }
def FnExactWinnersOfSaid : Prop := fnExactWinnersOfRow.holds Try.pinned (OpenSpec.ofChange fnExactWinnersOfSpec)

/-- ITS FALSE NEIGHBOUR: 'it returns false'. Refute it at one input. -/
def fnExactWinnersOfWrong : ChangeSpec := { name := "fnExactWinnersOf", fn := fun _ => fun
  | [d1, d2] => { results := [.lit (.bool false)], args := [d1, d2] }
  | _ => none }
def FnExactWinnersOfWrongFalsely : Prop := fnExactWinnersOfRow.holds Try.pinned (OpenSpec.ofChange fnExactWinnersOfWrong)

/-- 'laws.FnExactHalfFor': WHATEVER THE INPUT: true; the input reads as it did. -/
def fnExactHalfForSpec : ChangeSpec := { name := "fnExactHalfFor", fn := fun _ => fun
  | [d1, d2, d3] => { results := [.lit (.bool true)], args := [d1, d2, d3] }
  | _ => none }
def fnExactHalfForRow : OpenClaim := { program := "ytcncljiahgjbaaa", sum := "db36077e0096f60451e24e8e31ce566a6a627491b40c73b7ffb5eb87dc73f3be", func := "loop.example/g03205/laws.FnExactHalfFor", spec := "fnExactHalfFor", unfollowed := true, recurses := true, apart := false }
def FnExactHalfForSaid : Prop := fnExactHalfForRow.holds Try.pinned (OpenSpec.ofChange fnExactHalfForSpec)

/-- ITS FALSE NEIGHBOUR: 'it returns false'. Refute it at one input. -/
def fnExactHalfForWrong : ChangeSpec := { name := "fnExactHalfFor", fn := fun _ => fun
  | [d1, d2, d3] => { results := [.lit (.bool false)], args := [d1, d2, d3] }
  | _ => none }
def FnExactHalfForWrongFalsely : Prop := fnExactHalfForRow.holds Try.pinned (OpenSpec.ofChange fnExactHalfForWrong)

/-- 'laws.FnExactCanWin': WHATEVER THE INPUT: true; the input reads as it did. -/
def fnExactCanWinSpec : ChangeSpec := { name := "fnExactCanWin", fn := fun _ => fun
  | [d1, d2] => { results := [.lit (.bool true)], args := [d1, d2] }
  | _ => none }
def fnExactCanWinRow : OpenClaim := { program := "ytcncljiahgjbaaa", sum := "db36077e0096f60451e24e8e31ce566a6a627491b40c73b7ffb5eb87dc73f3be", func := "loop.example/g03205/laws.FnExactCanWin", spec := "fnExactCanWin", unfollowed := true, recurses := true, apart := false }
def FnExactCanWinSaid : Prop := fnExactCanWinRow.holds Try.pinned (OpenSpec.ofChange fnExactCanWinSpec)

/-- ITS FALSE NEIGHBOUR: 'it returns false'. Refute it at one input. -/
def fnExactCanWinWrong : ChangeSpec := { name := "fnExactCanWin", fn := fun _ => fun
  | [d1, d2] => { results := [.lit (.bool false)], args := [d1, d2] }
  | _ => none }
def FnExactCanWinWrongFalsely : Prop := fnExactCanWinRow.holds Try.pinned (OpenSpec.ofChange fnExactCanWinWrong)

/-- 'laws.FnExactCountBracketsFor': WHATEVER THE INPUT: true; the input reads as it did. -/
def fnExactCountBracketsForSpec : ChangeSpec := { name := "fnExactCountBracketsFor", fn := fun _ => fun
  | [d1, d2] => { results := [.lit (.bool true)], args := [d1, d2] }
  | _ => none }
def fnExactCountBracketsForRow : OpenClaim := { program := "ytcncljiahgjbaaa", sum := "db36077e0096f60451e24e8e31ce566a6a627491b40c73b7ffb5eb87dc73f3be", func := "loop.example/g03205/laws.FnExactCountBracketsFor", spec := "fnExactCountBracketsFor", unfollowed := true, recurses := true, apart := false }
def FnExactCountBracketsForSaid : Prop := fnExactCountBracketsForRow.holds Try.pinned (OpenSpec.ofChange fnExactCountBracketsForSpec)

/-- ITS FALSE NEIGHBOUR: 'it returns false'. Refute it at one input. -/
def fnExactCountBracketsForWrong : ChangeSpec := { name := "fnExactCountBracketsFor", fn := fun _ => fun
  | [d1, d2] => { results := [.lit (.bool false)], args := [d1, d2] }
  | _ => none }
def FnExactCountBracketsForWrongFalsely : Prop := fnExactCountBracketsForRow.holds Try.pinned (OpenSpec.ofChange fnExactCountBracketsForWrong)

/-- 'laws.FnExactBracketFor': WHATEVER THE INPUT: true; the input reads as it did. -/
def fnExactBracketForSpec : ChangeSpec := { name := "fnExactBracketFor", fn := fun _ => fun
  | [d1, d2] => { results := [.lit (.bool true)], args := [d1, d2] }
  | _ => none }
def fnExactBracketForRow : OpenClaim := { program := "ytcncljiahgjbaaa", sum := "db36077e0096f60451e24e8e31ce566a6a627491b40c73b7ffb5eb87dc73f3be", func := "loop.example/g03205/laws.FnExactBracketFor", spec := "fnExactBracketFor", unfollowed := true, recurses := true, apart := false }
def FnExactBracketForSaid : Prop := fnExactBracketForRow.holds Try.pinned (OpenSpec.ofChange fnExactBracketForSpec)

/-- ITS FALSE NEIGHBOUR: 'it returns false'. Refute it at one input. -/
def fnExactBracketForWrong : ChangeSpec := { name := "fnExactBracketFor", fn := fun _ => fun
  | [d1, d2] => { results := [.lit (.bool false)], args := [d1, d2] }
  | _ => none }
def FnExactBracketForWrongFalsely : Prop := fnExactBracketForRow.holds Try.pinned (OpenSpec.ofChange fnExactBracketForWrong)

/- THE SECOND FORM. 'bulk': how many values and letters a reading holds, each counted each time it is reached (what is shared counts as often as it is met; a slice's spare places count too). A statement '..UptoSaid' is the law's where the arguments, and the package variables that the reading takes, are together of bulk at most 1048576: NARROWER than '..Said'. Prove '..Said' where nothing that the law and all that it calls make is longer than what came in: it says more and counts as full. Else prove '..UptoSaid'. A law counts once. -/
mutual
def uptoBulk {H : Type} : DataW H → Nat
  | .lit (.string bytes) => bytes.length + 1
  | .lit _ => 1
  | .nil => 1
  | .ptr d => uptoBulk d + 1
  | .slice elems spare => uptoBulkAll elems + uptoBulkAll spare + 1
  | .agg parts => uptoBulkAll parts + 1
  | .iface _ d => uptoBulk d + 1
  | .map entries => uptoBulkEntries entries + 1
  | .held _ => 1
def uptoBulkAll {H : Type} : List (DataW H) → Nat
  | [] => 0
  | d :: r => uptoBulk d + uptoBulkAll r
def uptoBulkEntries {H : Type} : List (Lit × DataW H) → Nat
  | [] => 0
  | x :: r => uptoBulkEntry x + uptoBulkEntries r
def uptoBulkEntry {H : Type} : Lit × DataW H → Nat
  | (.string bytes, d) => bytes.length + uptoBulk d + 1
  | (_, d) => uptoBulk d + 1
 end
def uptoSmall : (H : Type) → List (DataW H) → Bool := fun _ ds => decide (uptoBulkAll ds ≤ 1048576)
def OpenSpec.upto (s : _root_.Go.ChangeSpec) : _root_.Go.OpenSpec := { _root_.Go.OpenSpec.ofChange s with cond := some uptoSmall }

/-- 'laws.FnExactIsStrongKing', WHERE WHAT IT READS IS OF BULK AT MOST 1048576: true; the input reads as it did. -/
def fnExactIsStrongKingUptoRow : OpenClaim := { program := "ytcncljiahgjbaaa", sum := "db36077e0096f60451e24e8e31ce566a6a627491b40c73b7ffb5eb87dc73f3be", func := "loop.example/g03205/laws.FnExactIsStrongKing", spec := "fnExactIsStrongKing", unfollowed := true, recurses := true, apart := false, narrowed := true }
def FnExactIsStrongKingUptoSaid : Prop := fnExactIsStrongKingUptoRow.holds Try.pinned (OpenSpec.upto fnExactIsStrongKingSpec)

/-- 'laws.FnExactPossibleWinners', WHERE WHAT IT READS IS OF BULK AT MOST 1048576: true; the input reads as it did. -/
def fnExactPossibleWinnersUptoRow : OpenClaim := { program := "ytcncljiahgjbaaa", sum := "db36077e0096f60451e24e8e31ce566a6a627491b40c73b7ffb5eb87dc73f3be", func := "loop.example/g03205/laws.FnExactPossibleWinners", spec := "fnExactPossibleWinners", unfollowed := true, recurses := true, apart := false, narrowed := true }
def FnExactPossibleWinnersUptoSaid : Prop := fnExactPossibleWinnersUptoRow.holds Try.pinned (OpenSpec.upto fnExactPossibleWinnersSpec)

/-- 'laws.FnExactWinnersOf', WHERE WHAT IT READS IS OF BULK AT MOST 1048576: true; the input reads as it did. -/
def fnExactWinnersOfUptoRow : OpenClaim := { program := "ytcncljiahgjbaaa", sum := "db36077e0096f60451e24e8e31ce566a6a627491b40c73b7ffb5eb87dc73f3be", func := "loop.example/g03205/laws.FnExactWinnersOf", spec := "fnExactWinnersOf", unfollowed := true, recurses := true, apart := false, narrowed := true }
def FnExactWinnersOfUptoSaid : Prop := fnExactWinnersOfUptoRow.holds Try.pinned (OpenSpec.upto fnExactWinnersOfSpec)

/-- 'laws.FnExactHalfFor', WHERE WHAT IT READS IS OF BULK AT MOST 1048576: true; the input reads as it did. -/
def fnExactHalfForUptoRow : OpenClaim := { program := "ytcncljiahgjbaaa", sum := "db36077e0096f60451e24e8e31ce566a6a627491b40c73b7ffb5eb87dc73f3be", func := "loop.example/g03205/laws.FnExactHalfFor", spec := "fnExactHalfFor", unfollowed := true, recurses := true, apart := false, narrowed := true }
def FnExactHalfForUptoSaid : Prop := fnExactHalfForUptoRow.holds Try.pinned (OpenSpec.upto fnExactHalfForSpec)

/-- 'laws.FnExactCanWin', WHERE WHAT IT READS IS OF BULK AT MOST 1048576: true; the input reads as it did. -/
def fnExactCanWinUptoRow : OpenClaim := { program := "ytcncljiahgjbaaa", sum := "db36077e0096f60451e24e8e31ce566a6a627491b40c73b7ffb5eb87dc73f3be", func := "loop.example/g03205/laws.FnExactCanWin", spec := "fnExactCanWin", unfollowed := true, recurses := true, apart := false, narrowed := true }
def FnExactCanWinUptoSaid : Prop := fnExactCanWinUptoRow.holds Try.pinned (OpenSpec.upto fnExactCanWinSpec)

/-- 'laws.FnExactCountBracketsFor', WHERE WHAT IT READS IS OF BULK AT MOST 1048576: true; the input reads as it did. -/
def fnExactCountBracketsForUptoRow : OpenClaim := { program := "ytcncljiahgjbaaa", sum := "db36077e0096f60451e24e8e31ce566a6a627491b40c73b7ffb5eb87dc73f3be", func := "loop.example/g03205/laws.FnExactCountBracketsFor", spec := "fnExactCountBracketsFor", unfollowed := true, recurses := true, apart := false, narrowed := true }
def FnExactCountBracketsForUptoSaid : Prop := fnExactCountBracketsForUptoRow.holds Try.pinned (OpenSpec.upto fnExactCountBracketsForSpec)

/-- 'laws.FnExactBracketFor', WHERE WHAT IT READS IS OF BULK AT MOST 1048576: true; the input reads as it did. -/
def fnExactBracketForUptoRow : OpenClaim := { program := "ytcncljiahgjbaaa", sum := "db36077e0096f60451e24e8e31ce566a6a627491b40c73b7ffb5eb87dc73f3be", func := "loop.example/g03205/laws.FnExactBracketFor", spec := "fnExactBracketFor", unfollowed := true, recurses := true, apart := false, narrowed := true }
def FnExactBracketForUptoSaid : Prop := fnExactBracketForUptoRow.holds Try.pinned (OpenSpec.upto fnExactBracketForSpec)

end Rows
end Go.Proofs.Ytcncljiahgjbaaa
