/-
  No cell of these rows narrows 'for every input' (looked for: loops, veiled, ifaces, maps, wideKeys, modest, calm, conditions, laid).
  DERIVED. THE GIVEN ROWS OF THIS SEAT. 11 by the template 'for every input the law returns true; each argument reads behind the call as it read before'; 0 by the template 'total and deterministic' (their statements: YtafhcnnbiheofaaTotals.lean).
  GIVEN WITH THE SEED: the statements are not yours to turn. If you find one false, say at which input.
  Laid BY PROGRAM, IN A SANDBOX (cutbox-rows.mjs): the forced cells as the released guide's own fill.sh prints them over the translation e68944da4a5d3f24… (all of the seat's roots in one cut). By AI agents, Wed Nov 11 2026. No macro, syntax, notation, axiom, sorry.
-/
import Derived.Test.YtafhcnnbiheofaaChecked
import GoSem.Claim
import GoSem.ClaimJoined
import GoSem.ClaimMapViews
import Derived.JoinedTies
import Derived.KernelRfl
namespace Go.Proofs.Ytafhcnnbiheofaa
/- THE CELL 'sum', in the pinned program and in every row, IS THE sha256 OF THE DUMP (.gsa) THAT YtafhcnnbiheofaaProg.lean LOADS. Nothing in Lean hashes anything: it is a label: what it is worth is what the hold of that sum in a sandbox is worth. -/
noncomputable def Try.pinned : Pinned := { name := "ytafhcnnbiheofaa", sum := "e68944da4a5d3f248bc32b435c1ead339f9442b38a1b2d71076d9c7c4d48fcf4", checked := Try.checked }
namespace Rows
def none {H : Type} : Left H := { results := [], args := [] }

/-- 'laws.FnExactSameBracket': WHATEVER THE INPUT: true; the input reads as it did. -/
def fnExactSameBracketSpec : ChangeSpec := { name := "fnExactSameBracket", fn := fun _ => fun
  | [d1, d2] => { results := [.lit (.bool true)], args := [d1, d2] }
  | _ => none }
def fnExactSameBracketRow : OpenClaim := { program := "ytafhcnnbiheofaa", sum := "e68944da4a5d3f248bc32b435c1ead339f9442b38a1b2d71076d9c7c4d48fcf4", func := "loop.example/g03205/laws.FnExactSameBracket", spec := "fnExactSameBracket", unfollowed := true, recurses := true, plainKeys := false, apart := false }
def FnExactSameBracketSaid : Prop := fnExactSameBracketRow.holds Try.pinned (OpenSpec.ofChange fnExactSameBracketSpec)

/-- ITS FALSE NEIGHBOUR: 'it returns false'. Refute it at one input. -/
def fnExactSameBracketWrong : ChangeSpec := { name := "fnExactSameBracket", fn := fun _ => fun
  | [d1, d2] => { results := [.lit (.bool false)], args := [d1, d2] }
  | _ => none }
def FnExactSameBracketWrongFalsely : Prop := fnExactSameBracketRow.holds Try.pinned (OpenSpec.ofChange fnExactSameBracketWrong)

/-- 'laws.FnExactScheduleGames': WHATEVER THE INPUT: true; the input reads as it did. -/
def fnExactScheduleGamesSpec : ChangeSpec := { name := "fnExactScheduleGames", fn := fun _ => fun
  | [d] => { results := [.lit (.bool true)], args := [d] }
  | _ => none }
def fnExactScheduleGamesRow : OpenClaim := { program := "ytafhcnnbiheofaa", sum := "e68944da4a5d3f248bc32b435c1ead339f9442b38a1b2d71076d9c7c4d48fcf4", func := "loop.example/g03205/laws.FnExactScheduleGames", spec := "fnExactScheduleGames", unfollowed := true, recurses := true, plainKeys := false, apart := false }
def FnExactScheduleGamesSaid : Prop := fnExactScheduleGamesRow.holds Try.pinned (OpenSpec.ofChange fnExactScheduleGamesSpec)

/-- ITS FALSE NEIGHBOUR: 'it returns false'. Refute it at one input. -/
def fnExactScheduleGamesWrong : ChangeSpec := { name := "fnExactScheduleGames", fn := fun _ => fun
  | [d] => { results := [.lit (.bool false)], args := [d] }
  | _ => none }
def FnExactScheduleGamesWrongFalsely : Prop := fnExactScheduleGamesRow.holds Try.pinned (OpenSpec.ofChange fnExactScheduleGamesWrong)

/-- 'laws.FnExactIdleTeams': WHATEVER THE INPUT: true; the input reads as it did. -/
def fnExactIdleTeamsSpec : ChangeSpec := { name := "fnExactIdleTeams", fn := fun _ => fun
  | [d1, d2, d3] => { results := [.lit (.bool true)], args := [d1, d2, d3] }
  | _ => none }
def fnExactIdleTeamsRow : OpenClaim := { program := "ytafhcnnbiheofaa", sum := "e68944da4a5d3f248bc32b435c1ead339f9442b38a1b2d71076d9c7c4d48fcf4", func := "loop.example/g03205/laws.FnExactIdleTeams", spec := "fnExactIdleTeams", unfollowed := true, recurses := true, plainKeys := false, apart := false }
def FnExactIdleTeamsSaid : Prop := fnExactIdleTeamsRow.holds Try.pinned (OpenSpec.ofChange fnExactIdleTeamsSpec)

/-- ITS FALSE NEIGHBOUR: 'it returns false'. Refute it at one input. -/
def fnExactIdleTeamsWrong : ChangeSpec := { name := "fnExactIdleTeams", fn := fun _ => fun
  | [d1, d2, d3] => { results := [.lit (.bool false)], args := [d1, d2, d3] }
  | _ => none }
def FnExactIdleTeamsWrongFalsely : Prop := fnExactIdleTeamsRow.holds Try.pinned (OpenSpec.ofChange fnExactIdleTeamsWrong)

/-- 'laws.FnExactLeastTour': WHATEVER THE INPUT: true; the input reads as it did. -/
def fnExactLeastTourSpec : ChangeSpec := { name := "fnExactLeastTour", fn := fun _ => fun
  | [d1, d2, d3, d4] => { results := [.lit (.bool true)], args := [d1, d2, d3, d4] }
  | _ => none }
def fnExactLeastTourRow : OpenClaim := { program := "ytafhcnnbiheofaa", sum := "e68944da4a5d3f248bc32b435c1ead339f9442b38a1b2d71076d9c7c4d48fcf4", func := "loop.example/g03205/laws.FnExactLeastTour", spec := "fnExactLeastTour", unfollowed := true, recurses := true, plainKeys := false, apart := false }
def FnExactLeastTourSaid : Prop := fnExactLeastTourRow.holds Try.pinned (OpenSpec.ofChange fnExactLeastTourSpec)

/-- ITS FALSE NEIGHBOUR: 'it returns false'. Refute it at one input. -/
def fnExactLeastTourWrong : ChangeSpec := { name := "fnExactLeastTour", fn := fun _ => fun
  | [d1, d2, d3, d4] => { results := [.lit (.bool false)], args := [d1, d2, d3, d4] }
  | _ => none }
def FnExactLeastTourWrongFalsely : Prop := fnExactLeastTourRow.holds Try.pinned (OpenSpec.ofChange fnExactLeastTourWrong)

/-- 'laws.FnExactCountPairings': WHATEVER THE INPUT: true; the input reads as it did. -/
def fnExactCountPairingsSpec : ChangeSpec := { name := "fnExactCountPairings", fn := fun _ => fun
  | [d1, d2] => { results := [.lit (.bool true)], args := [d1, d2] }
  | _ => none }
def fnExactCountPairingsRow : OpenClaim := { program := "ytafhcnnbiheofaa", sum := "e68944da4a5d3f248bc32b435c1ead339f9442b38a1b2d71076d9c7c4d48fcf4", func := "loop.example/g03205/laws.FnExactCountPairings", spec := "fnExactCountPairings", unfollowed := true, recurses := true, plainKeys := false, apart := false }
def FnExactCountPairingsSaid : Prop := fnExactCountPairingsRow.holds Try.pinned (OpenSpec.ofChange fnExactCountPairingsSpec)

/-- ITS FALSE NEIGHBOUR: 'it returns false'. Refute it at one input. -/
def fnExactCountPairingsWrong : ChangeSpec := { name := "fnExactCountPairings", fn := fun _ => fun
  | [d1, d2] => { results := [.lit (.bool false)], args := [d1, d2] }
  | _ => none }
def FnExactCountPairingsWrongFalsely : Prop := fnExactCountPairingsRow.holds Try.pinned (OpenSpec.ofChange fnExactCountPairingsWrong)

/-- 'laws.FnExactLeastFloat': WHATEVER THE INPUT: true; the input reads as it did. -/
def fnExactLeastFloatSpec : ChangeSpec := { name := "fnExactLeastFloat", fn := fun _ => fun
  | [d1, d2] => { results := [.lit (.bool true)], args := [d1, d2] }
  | _ => none }
def fnExactLeastFloatRow : OpenClaim := { program := "ytafhcnnbiheofaa", sum := "e68944da4a5d3f248bc32b435c1ead339f9442b38a1b2d71076d9c7c4d48fcf4", func := "loop.example/g03205/laws.FnExactLeastFloat", spec := "fnExactLeastFloat", unfollowed := true, recurses := true, plainKeys := false, apart := false }
def FnExactLeastFloatSaid : Prop := fnExactLeastFloatRow.holds Try.pinned (OpenSpec.ofChange fnExactLeastFloatSpec)

/-- ITS FALSE NEIGHBOUR: 'it returns false'. Refute it at one input. -/
def fnExactLeastFloatWrong : ChangeSpec := { name := "fnExactLeastFloat", fn := fun _ => fun
  | [d1, d2] => { results := [.lit (.bool false)], args := [d1, d2] }
  | _ => none }
def FnExactLeastFloatWrongFalsely : Prop := fnExactLeastFloatRow.holds Try.pinned (OpenSpec.ofChange fnExactLeastFloatWrong)

/-- 'laws.FnExactSwissOrder': WHATEVER THE INPUT: true; the input reads as it did. -/
def fnExactSwissOrderSpec : ChangeSpec := { name := "fnExactSwissOrder", fn := fun _ => fun
  | [d] => { results := [.lit (.bool true)], args := [d] }
  | _ => none }
def fnExactSwissOrderRow : OpenClaim := { program := "ytafhcnnbiheofaa", sum := "e68944da4a5d3f248bc32b435c1ead339f9442b38a1b2d71076d9c7c4d48fcf4", func := "loop.example/g03205/laws.FnExactSwissOrder", spec := "fnExactSwissOrder", unfollowed := true, recurses := true, plainKeys := false, apart := false }
def FnExactSwissOrderSaid : Prop := fnExactSwissOrderRow.holds Try.pinned (OpenSpec.ofChange fnExactSwissOrderSpec)

/-- ITS FALSE NEIGHBOUR: 'it returns false'. Refute it at one input. -/
def fnExactSwissOrderWrong : ChangeSpec := { name := "fnExactSwissOrder", fn := fun _ => fun
  | [d] => { results := [.lit (.bool false)], args := [d] }
  | _ => none }
def FnExactSwissOrderWrongFalsely : Prop := fnExactSwissOrderRow.holds Try.pinned (OpenSpec.ofChange fnExactSwissOrderWrong)

/-- 'laws.FnExactPairSwiss': WHATEVER THE INPUT: true; the input reads as it did. -/
def fnExactPairSwissSpec : ChangeSpec := { name := "fnExactPairSwiss", fn := fun _ => fun
  | [d1, d2] => { results := [.lit (.bool true)], args := [d1, d2] }
  | _ => none }
def fnExactPairSwissRow : OpenClaim := { program := "ytafhcnnbiheofaa", sum := "e68944da4a5d3f248bc32b435c1ead339f9442b38a1b2d71076d9c7c4d48fcf4", func := "loop.example/g03205/laws.FnExactPairSwiss", spec := "fnExactPairSwiss", unfollowed := true, recurses := true, plainKeys := false, apart := false }
def FnExactPairSwissSaid : Prop := fnExactPairSwissRow.holds Try.pinned (OpenSpec.ofChange fnExactPairSwissSpec)

/-- ITS FALSE NEIGHBOUR: 'it returns false'. Refute it at one input. -/
def fnExactPairSwissWrong : ChangeSpec := { name := "fnExactPairSwiss", fn := fun _ => fun
  | [d1, d2] => { results := [.lit (.bool false)], args := [d1, d2] }
  | _ => none }
def FnExactPairSwissWrongFalsely : Prop := fnExactPairSwissRow.holds Try.pinned (OpenSpec.ofChange fnExactPairSwissWrong)

/-- 'laws.FnExactSwissPlay': WHATEVER THE INPUT: true; the input reads as it did. -/
def fnExactSwissPlaySpec : ChangeSpec := { name := "fnExactSwissPlay", fn := fun _ => fun
  | [d1, d2] => { results := [.lit (.bool true)], args := [d1, d2] }
  | _ => none }
def fnExactSwissPlayRow : OpenClaim := { program := "ytafhcnnbiheofaa", sum := "e68944da4a5d3f248bc32b435c1ead339f9442b38a1b2d71076d9c7c4d48fcf4", func := "loop.example/g03205/laws.FnExactSwissPlay", spec := "fnExactSwissPlay", unfollowed := true, recurses := true, plainKeys := false, apart := false }
def FnExactSwissPlaySaid : Prop := fnExactSwissPlayRow.holds Try.pinned (OpenSpec.ofChange fnExactSwissPlaySpec)

/-- ITS FALSE NEIGHBOUR: 'it returns false'. Refute it at one input. -/
def fnExactSwissPlayWrong : ChangeSpec := { name := "fnExactSwissPlay", fn := fun _ => fun
  | [d1, d2] => { results := [.lit (.bool false)], args := [d1, d2] }
  | _ => none }
def FnExactSwissPlayWrongFalsely : Prop := fnExactSwissPlayRow.holds Try.pinned (OpenSpec.ofChange fnExactSwissPlayWrong)

/-- 'laws.FnExactCountBracketsFor': WHATEVER THE INPUT: true; the input reads as it did. -/
def fnExactCountBracketsForSpec : ChangeSpec := { name := "fnExactCountBracketsFor", fn := fun _ => fun
  | [d1, d2] => { results := [.lit (.bool true)], args := [d1, d2] }
  | _ => none }
def fnExactCountBracketsForRow : OpenClaim := { program := "ytafhcnnbiheofaa", sum := "e68944da4a5d3f248bc32b435c1ead339f9442b38a1b2d71076d9c7c4d48fcf4", func := "loop.example/g03205/laws.FnExactCountBracketsFor", spec := "fnExactCountBracketsFor", unfollowed := true, recurses := true, plainKeys := false, apart := false }
def FnExactCountBracketsForSaid : Prop := fnExactCountBracketsForRow.holds Try.pinned (OpenSpec.ofChange fnExactCountBracketsForSpec)

/-- ITS FALSE NEIGHBOUR: 'it returns false'. Refute it at one input. -/
def fnExactCountBracketsForWrong : ChangeSpec := { name := "fnExactCountBracketsFor", fn := fun _ => fun
  | [d1, d2] => { results := [.lit (.bool false)], args := [d1, d2] }
  | _ => none }
def FnExactCountBracketsForWrongFalsely : Prop := fnExactCountBracketsForRow.holds Try.pinned (OpenSpec.ofChange fnExactCountBracketsForWrong)

/-- 'laws.FnExactBracketFor': WHATEVER THE INPUT: true; the input reads as it did. -/
def fnExactBracketForSpec : ChangeSpec := { name := "fnExactBracketFor", fn := fun _ => fun
  | [d1, d2] => { results := [.lit (.bool true)], args := [d1, d2] }
  | _ => none }
def fnExactBracketForRow : OpenClaim := { program := "ytafhcnnbiheofaa", sum := "e68944da4a5d3f248bc32b435c1ead339f9442b38a1b2d71076d9c7c4d48fcf4", func := "loop.example/g03205/laws.FnExactBracketFor", spec := "fnExactBracketFor", unfollowed := true, recurses := true, plainKeys := false, apart := false }
def FnExactBracketForSaid : Prop := fnExactBracketForRow.holds Try.pinned (OpenSpec.ofChange fnExactBracketForSpec)

/-- ITS FALSE NEIGHBOUR: 'it returns false'. Refute it at one input. -/
def fnExactBracketForWrong : ChangeSpec := { name := "fnExactBracketFor", fn := fun _ => fun
  | [d1, d2] => { results := [.lit (.bool false)], args := [d1, d2] }
  | _ => none }
def FnExactBracketForWrongFalsely : Prop := fnExactBracketForRow.holds Try.pinned (OpenSpec.ofChange fnExactBracketForWrong)

/- THE SECOND FORM. 'bulk': how many values and letters a reading holds, each counted each time it is reached (what is shared counts as often as it is met; a slice's spare places count too). A statement '..UptoSaid' is the law's where the arguments, and the package variables that the reading takes, are together of bulk at most 1048576: NARROWER than '..Said'. Prove '..Said' where nothing that the law and all that it calls make is longer than what came in: it says more and counts as full. Else prove '..UptoSaid'. A law counts once. -/
mutual
def uptoBulk {H : Type} : DataW H → Nat
  | .lit (.string bytes) => bytes.length + 1
  | .lit _ => 1
  | .nil => 1
  | .ptr d => uptoBulk d + 1
  | .slice elems spare => uptoBulkAll elems + uptoBulkAll spare + 1
  | .agg parts => uptoBulkAll parts + 1
  | .iface _ d => uptoBulk d + 1
  | .map entries => uptoBulkEntries entries + 1
  | .held _ => 1
def uptoBulkAll {H : Type} : List (DataW H) → Nat
  | [] => 0
  | d :: r => uptoBulk d + uptoBulkAll r
def uptoBulkEntries {H : Type} : List (Lit × DataW H) → Nat
  | [] => 0
  | x :: r => uptoBulkEntry x + uptoBulkEntries r
def uptoBulkEntry {H : Type} : Lit × DataW H → Nat
  | (.string bytes, d) => bytes.length + uptoBulk d + 1
  | (_, d) => uptoBulk d + 1
 end
def uptoSmall : (H : Type) → List (DataW H) → Bool := fun _ ds => decide (uptoBulkAll ds ≤ 1048576)
def OpenSpec.upto (s : _root_.Go.ChangeSpec) : _root_.Go.OpenSpec := { _root_.Go.OpenSpec.ofChange s with cond := some uptoSmall }

/-- 'laws.FnExactSameBracket', WHERE WHAT IT READS IS OF BULK AT MOST 1048576: true; the input reads as it did. -/
def fnExactSameBracketUptoRow : OpenClaim := { program := "ytafhcnnbiheofaa", sum := "e68944da4a5d3f248bc32b435c1ead339f9442b38a1b2d71076d9c7c4d48fcf4", func := "loop.example/g03205/laws.FnExactSameBracket", spec := "fnExactSameBracket", unfollowed := true, recurses := true, plainKeys := false, apart := false, narrowed := true }
def FnExactSameBracketUptoSaid : Prop := fnExactSameBracketUptoRow.holds Try.pinned (OpenSpec.upto fnExactSameBracketSpec)

/-- 'laws.FnExactScheduleGames', WHERE WHAT IT READS IS OF BULK AT MOST 1048576: true; the input reads as it did. -/
def fnExactScheduleGamesUptoRow : OpenClaim := { program := "ytafhcnnbiheofaa", sum := "e68944da4a5d3f248bc32b435c1ead339f9442b38a1b2d71076d9c7c4d48fcf4", func := "loop.example/g03205/laws.FnExactScheduleGames", spec := "fnExactScheduleGames", unfollowed := true, recurses := true, plainKeys := false, apart := false, narrowed := true }
def FnExactScheduleGamesUptoSaid : Prop := fnExactScheduleGamesUptoRow.holds Try.pinned (OpenSpec.upto fnExactScheduleGamesSpec)

/-- 'laws.FnExactIdleTeams', WHERE WHAT IT READS IS OF BULK AT MOST 1048576: true; the input reads as it did. -/
def fnExactIdleTeamsUptoRow : OpenClaim := { program := "ytafhcnnbiheofaa", sum := "e68944da4a5d3f248bc32b435c1ead339f9442b38a1b2d71076d9c7c4d48fcf4", func := "loop.example/g03205/laws.FnExactIdleTeams", spec := "fnExactIdleTeams", unfollowed := true, recurses := true, plainKeys := false, apart := false, narrowed := true }
def FnExactIdleTeamsUptoSaid : Prop := fnExactIdleTeamsUptoRow.holds Try.pinned (OpenSpec.upto fnExactIdleTeamsSpec)

/-- 'laws.FnExactLeastTour', WHERE WHAT IT READS IS OF BULK AT MOST 1048576: true; the input reads as it did. -/
def fnExactLeastTourUptoRow : OpenClaim := { program := "ytafhcnnbiheofaa", sum := "e68944da4a5d3f248bc32b435c1ead339f9442b38a1b2d71076d9c7c4d48fcf4", func := "loop.example/g03205/laws.FnExactLeastTour", spec := "fnExactLeastTour", unfollowed := true, recurses := true, plainKeys := false, apart := false, narrowed := true }
def FnExactLeastTourUptoSaid : Prop := fnExactLeastTourUptoRow.holds Try.pinned (OpenSpec.upto fnExactLeastTourSpec)

/-- 'laws.FnExactCountPairings', WHERE WHAT IT READS IS OF BULK AT MOST 1048576: true; the input reads as it did. -/
def fnExactCountPairingsUptoRow : OpenClaim := { program := "ytafhcnnbiheofaa", sum := "e68944da4a5d3f248bc32b435c1ead339f9442b38a1b2d71076d9c7c4d48fcf4", func := "loop.example/g03205/laws.FnExactCountPairings", spec := "fnExactCountPairings", unfollowed := true, recurses := true, plainKeys := false, apart := false, narrowed := true }
def FnExactCountPairingsUptoSaid : Prop := fnExactCountPairingsUptoRow.holds Try.pinned (OpenSpec.upto fnExactCountPairingsSpec)

/-- 'laws.FnExactLeastFloat', WHERE WHAT IT READS IS OF BULK AT MOST 1048576: true; the input reads as it did. -/
def fnExactLeastFloatUptoRow : OpenClaim := { program := "ytafhcnnbiheofaa", sum := "e68944da4a5d3f248bc32b435c1ead339f9442b38a1b2d71076d9c7c4d48fcf4", func := "loop.example/g03205/laws.FnExactLeastFloat", spec := "fnExactLeastFloat", unfollowed := true, recurses := true, plainKeys := false, apart := false, narrowed := true }
def FnExactLeastFloatUptoSaid : Prop := fnExactLeastFloatUptoRow.holds Try.pinned (OpenSpec.upto fnExactLeastFloatSpec)

/-- 'laws.FnExactSwissOrder', WHERE WHAT IT READS IS OF BULK AT MOST 1048576: true; the input reads as it did. -/
def fnExactSwissOrderUptoRow : OpenClaim := { program := "ytafhcnnbiheofaa", sum := "e68944da4a5d3f248bc32b435c1ead339f9442b38a1b2d71076d9c7c4d48fcf4", func := "loop.example/g03205/laws.FnExactSwissOrder", spec := "fnExactSwissOrder", unfollowed := true, recurses := true, plainKeys := false, apart := false, narrowed := true }
def FnExactSwissOrderUptoSaid : Prop := fnExactSwissOrderUptoRow.holds Try.pinned (OpenSpec.upto fnExactSwissOrderSpec)

/-- 'laws.FnExactPairSwiss', WHERE WHAT IT READS IS OF BULK AT MOST 1048576: true; the input reads as it did. -/
def fnExactPairSwissUptoRow : OpenClaim := { program := "ytafhcnnbiheofaa", sum := "e68944da4a5d3f248bc32b435c1ead339f9442b38a1b2d71076d9c7c4d48fcf4", func := "loop.example/g03205/laws.FnExactPairSwiss", spec := "fnExactPairSwiss", unfollowed := true, recurses := true, plainKeys := false, apart := false, narrowed := true }
def FnExactPairSwissUptoSaid : Prop := fnExactPairSwissUptoRow.holds Try.pinned (OpenSpec.upto fnExactPairSwissSpec)

/-- 'laws.FnExactSwissPlay', WHERE WHAT IT READS IS OF BULK AT MOST 1048576: true; the input reads as it did. -/
def fnExactSwissPlayUptoRow : OpenClaim := { program := "ytafhcnnbiheofaa", sum := "e68944da4a5d3f248bc32b435c1ead339f9442b38a1b2d71076d9c7c4d48fcf4", func := "loop.example/g03205/laws.FnExactSwissPlay", spec := "fnExactSwissPlay", unfollowed := true, recurses := true, plainKeys := false, apart := false, narrowed := true }
def FnExactSwissPlayUptoSaid : Prop := fnExactSwissPlayUptoRow.holds Try.pinned (OpenSpec.upto fnExactSwissPlaySpec)

/-- 'laws.FnExactCountBracketsFor', WHERE WHAT IT READS IS OF BULK AT MOST 1048576: true; the input reads as it did. -/
def fnExactCountBracketsForUptoRow : OpenClaim := { program := "ytafhcnnbiheofaa", sum := "e68944da4a5d3f248bc32b435c1ead339f9442b38a1b2d71076d9c7c4d48fcf4", func := "loop.example/g03205/laws.FnExactCountBracketsFor", spec := "fnExactCountBracketsFor", unfollowed := true, recurses := true, plainKeys := false, apart := false, narrowed := true }
def FnExactCountBracketsForUptoSaid : Prop := fnExactCountBracketsForUptoRow.holds Try.pinned (OpenSpec.upto fnExactCountBracketsForSpec)

/-- 'laws.FnExactBracketFor', WHERE WHAT IT READS IS OF BULK AT MOST 1048576: true; the input reads as it did. -/
def fnExactBracketForUptoRow : OpenClaim := { program := "ytafhcnnbiheofaa", sum := "e68944da4a5d3f248bc32b435c1ead339f9442b38a1b2d71076d9c7c4d48fcf4", func := "loop.example/g03205/laws.FnExactBracketFor", spec := "fnExactBracketFor", unfollowed := true, recurses := true, plainKeys := false, apart := false, narrowed := true }
def FnExactBracketForUptoSaid : Prop := fnExactBracketForUptoRow.holds Try.pinned (OpenSpec.upto fnExactBracketForSpec)

end Rows
end Go.Proofs.Ytafhcnnbiheofaa
