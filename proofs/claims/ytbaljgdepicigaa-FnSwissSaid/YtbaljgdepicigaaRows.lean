/-
  No cell of these rows narrows 'for every input' (looked for: loops, veiled, ifaces, maps, wideKeys, modest, calm, conditions, laid).
  DERIVED. THE GIVEN ROWS OF THIS SEAT. 10 by the template 'for every input the law returns true; each argument reads behind the call as it read before'; 0 by the template 'total and deterministic' (their statements: YtbaljgdepicigaaTotals.lean).
  GIVEN WITH THE SEED: the statements are not yours to turn. If you find one false, say at which input.
  Laid BY PROGRAM, IN A SANDBOX (cutbox-rows.mjs): the forced cells as the released guide's own fill.sh prints them over the translation 451faf61c8922d9f… (all of the seat's roots in one cut). By AI agents, Wed Nov 11 2026. No macro, syntax, notation, axiom, sorry.
-/
import Derived.Test.YtbaljgdepicigaaChecked
import GoSem.Claim
import GoSem.ClaimJoined
import GoSem.ClaimMapViews
import Derived.JoinedTies
import Derived.KernelRfl
namespace Go.Proofs.Ytbaljgdepicigaa
/- THE CELL 'sum', in the pinned program and in every row, IS THE sha256 OF THE DUMP (.gsa) THAT YtbaljgdepicigaaProg.lean LOADS. Nothing in Lean hashes anything: it is a label: what it is worth is what the hold of that sum in a sandbox is worth. -/
noncomputable def Try.pinned : Pinned := { name := "ytbaljgdepicigaa", sum := "451faf61c8922d9fd7a9e540a0ec8535c819e6dc7db7aab16115a660203fd964", checked := Try.checked }
namespace Rows
def none {H : Type} : Left H := { results := [], args := [] }

/-- 'laws.FnSwiss': WHATEVER THE INPUT: true; the input reads as it did. -/
def fnSwissSpec : ChangeSpec := { name := "fnSwiss", fn := fun _ => fun
  | [d] => { results := [.lit (.bool true)], args := [d] }
  | _ => none }
def fnSwissRow : OpenClaim := { program := "ytbaljgdepicigaa", sum := "451faf61c8922d9fd7a9e540a0ec8535c819e6dc7db7aab16115a660203fd964", func := "loop.example/g03205/laws.FnSwiss", spec := "fnSwiss", unfollowed := true, recurses := true, plainKeys := false, apart := false }
def FnSwissSaid : Prop := fnSwissRow.holds Try.pinned (OpenSpec.ofChange fnSwissSpec)

/-- ITS FALSE NEIGHBOUR: 'it returns false'. Refute it at one input. -/
def fnSwissWrong : ChangeSpec := { name := "fnSwiss", fn := fun _ => fun
  | [d] => { results := [.lit (.bool false)], args := [d] }
  | _ => none }
def FnSwissWrongFalsely : Prop := fnSwissRow.holds Try.pinned (OpenSpec.ofChange fnSwissWrong)

/-- 'laws.FnExactCountPairings': WHATEVER THE INPUT: true; the input reads as it did. -/
def fnExactCountPairingsSpec : ChangeSpec := { name := "fnExactCountPairings", fn := fun _ => fun
  | [d1, d2] => { results := [.lit (.bool true)], args := [d1, d2] }
  | _ => none }
def fnExactCountPairingsRow : OpenClaim := { program := "ytbaljgdepicigaa", sum := "451faf61c8922d9fd7a9e540a0ec8535c819e6dc7db7aab16115a660203fd964", func := "loop.example/g03205/laws.FnExactCountPairings", spec := "fnExactCountPairings", unfollowed := true, recurses := true, plainKeys := false, apart := false }
def FnExactCountPairingsSaid : Prop := fnExactCountPairingsRow.holds Try.pinned (OpenSpec.ofChange fnExactCountPairingsSpec)

/-- ITS FALSE NEIGHBOUR: 'it returns false'. Refute it at one input. -/
def fnExactCountPairingsWrong : ChangeSpec := { name := "fnExactCountPairings", fn := fun _ => fun
  | [d1, d2] => { results := [.lit (.bool false)], args := [d1, d2] }
  | _ => none }
def FnExactCountPairingsWrongFalsely : Prop := fnExactCountPairingsRow.holds Try.pinned (OpenSpec.ofChange fnExactCountPairingsWrong)

/-- 'laws.FnDays': WHATEVER THE INPUT: true; the input reads as it did. -/
def fnDaysSpec : ChangeSpec := { name := "fnDays", fn := fun _ => fun
  | [d] => { results := [.lit (.bool true)], args := [d] }
  | _ => none }
def fnDaysRow : OpenClaim := { program := "ytbaljgdepicigaa", sum := "451faf61c8922d9fd7a9e540a0ec8535c819e6dc7db7aab16115a660203fd964", func := "loop.example/g03205/laws.FnDays", spec := "fnDays", unfollowed := true, recurses := true, plainKeys := false, apart := false }
def FnDaysSaid : Prop := fnDaysRow.holds Try.pinned (OpenSpec.ofChange fnDaysSpec)

/-- ITS FALSE NEIGHBOUR: 'it returns false'. Refute it at one input. -/
def fnDaysWrong : ChangeSpec := { name := "fnDays", fn := fun _ => fun
  | [d] => { results := [.lit (.bool false)], args := [d] }
  | _ => none }
def FnDaysWrongFalsely : Prop := fnDaysRow.holds Try.pinned (OpenSpec.ofChange fnDaysWrong)

/-- 'laws.FnExactLeastFloat': WHATEVER THE INPUT: true; the input reads as it did. -/
def fnExactLeastFloatSpec : ChangeSpec := { name := "fnExactLeastFloat", fn := fun _ => fun
  | [d1, d2] => { results := [.lit (.bool true)], args := [d1, d2] }
  | _ => none }
def fnExactLeastFloatRow : OpenClaim := { program := "ytbaljgdepicigaa", sum := "451faf61c8922d9fd7a9e540a0ec8535c819e6dc7db7aab16115a660203fd964", func := "loop.example/g03205/laws.FnExactLeastFloat", spec := "fnExactLeastFloat", unfollowed := true, recurses := true, plainKeys := false, apart := false }
def FnExactLeastFloatSaid : Prop := fnExactLeastFloatRow.holds Try.pinned (OpenSpec.ofChange fnExactLeastFloatSpec)

/-- ITS FALSE NEIGHBOUR: 'it returns false'. Refute it at one input. -/
def fnExactLeastFloatWrong : ChangeSpec := { name := "fnExactLeastFloat", fn := fun _ => fun
  | [d1, d2] => { results := [.lit (.bool false)], args := [d1, d2] }
  | _ => none }
def FnExactLeastFloatWrongFalsely : Prop := fnExactLeastFloatRow.holds Try.pinned (OpenSpec.ofChange fnExactLeastFloatWrong)

/-- 'laws.FnExactCountBracketsFor': WHATEVER THE INPUT: true; the input reads as it did. -/
def fnExactCountBracketsForSpec : ChangeSpec := { name := "fnExactCountBracketsFor", fn := fun _ => fun
  | [d1, d2] => { results := [.lit (.bool true)], args := [d1, d2] }
  | _ => none }
def fnExactCountBracketsForRow : OpenClaim := { program := "ytbaljgdepicigaa", sum := "451faf61c8922d9fd7a9e540a0ec8535c819e6dc7db7aab16115a660203fd964", func := "loop.example/g03205/laws.FnExactCountBracketsFor", spec := "fnExactCountBracketsFor", unfollowed := true, recurses := true, plainKeys := false, apart := false }
def FnExactCountBracketsForSaid : Prop := fnExactCountBracketsForRow.holds Try.pinned (OpenSpec.ofChange fnExactCountBracketsForSpec)

/-- ITS FALSE NEIGHBOUR: 'it returns false'. Refute it at one input. -/
def fnExactCountBracketsForWrong : ChangeSpec := { name := "fnExactCountBracketsFor", fn := fun _ => fun
  | [d1, d2] => { results := [.lit (.bool false)], args := [d1, d2] }
  | _ => none }
def FnExactCountBracketsForWrongFalsely : Prop := fnExactCountBracketsForRow.holds Try.pinned (OpenSpec.ofChange fnExactCountBracketsForWrong)

/-- 'laws.FnExactBracketFor': WHATEVER THE INPUT: true; the input reads as it did. -/
def fnExactBracketForSpec : ChangeSpec := { name := "fnExactBracketFor", fn := fun _ => fun
  | [d1, d2] => { results := [.lit (.bool true)], args := [d1, d2] }
  | _ => none }
def fnExactBracketForRow : OpenClaim := { program := "ytbaljgdepicigaa", sum := "451faf61c8922d9fd7a9e540a0ec8535c819e6dc7db7aab16115a660203fd964", func := "loop.example/g03205/laws.FnExactBracketFor", spec := "fnExactBracketFor", unfollowed := true, recurses := true, plainKeys := false, apart := false }
def FnExactBracketForSaid : Prop := fnExactBracketForRow.holds Try.pinned (OpenSpec.ofChange fnExactBracketForSpec)

/-- ITS FALSE NEIGHBOUR: 'it returns false'. Refute it at one input. -/
def fnExactBracketForWrong : ChangeSpec := { name := "fnExactBracketFor", fn := fun _ => fun
  | [d1, d2] => { results := [.lit (.bool false)], args := [d1, d2] }
  | _ => none }
def FnExactBracketForWrongFalsely : Prop := fnExactBracketForRow.holds Try.pinned (OpenSpec.ofChange fnExactBracketForWrong)

/-- 'laws.FnTravel': WHATEVER THE INPUT: true; the input reads as it did. -/
def fnTravelSpec : ChangeSpec := { name := "fnTravel", fn := fun _ => fun
  | [d] => { results := [.lit (.bool true)], args := [d] }
  | _ => none }
def fnTravelRow : OpenClaim := { program := "ytbaljgdepicigaa", sum := "451faf61c8922d9fd7a9e540a0ec8535c819e6dc7db7aab16115a660203fd964", func := "loop.example/g03205/laws.FnTravel", spec := "fnTravel", unfollowed := true, recurses := true, plainKeys := false, apart := false }
def FnTravelSaid : Prop := fnTravelRow.holds Try.pinned (OpenSpec.ofChange fnTravelSpec)

/-- ITS FALSE NEIGHBOUR: 'it returns false'. Refute it at one input. -/
def fnTravelWrong : ChangeSpec := { name := "fnTravel", fn := fun _ => fun
  | [d] => { results := [.lit (.bool false)], args := [d] }
  | _ => none }
def FnTravelWrongFalsely : Prop := fnTravelRow.holds Try.pinned (OpenSpec.ofChange fnTravelWrong)

/-- 'laws.FnDouble': WHATEVER THE INPUT: true; the input reads as it did. -/
def fnDoubleSpec : ChangeSpec := { name := "fnDouble", fn := fun _ => fun
  | [d] => { results := [.lit (.bool true)], args := [d] }
  | _ => none }
def fnDoubleRow : OpenClaim := { program := "ytbaljgdepicigaa", sum := "451faf61c8922d9fd7a9e540a0ec8535c819e6dc7db7aab16115a660203fd964", func := "loop.example/g03205/laws.FnDouble", spec := "fnDouble", unfollowed := true, recurses := true, plainKeys := false, apart := false }
def FnDoubleSaid : Prop := fnDoubleRow.holds Try.pinned (OpenSpec.ofChange fnDoubleSpec)

/-- ITS FALSE NEIGHBOUR: 'it returns false'. Refute it at one input. -/
def fnDoubleWrong : ChangeSpec := { name := "fnDouble", fn := fun _ => fun
  | [d] => { results := [.lit (.bool false)], args := [d] }
  | _ => none }
def FnDoubleWrongFalsely : Prop := fnDoubleRow.holds Try.pinned (OpenSpec.ofChange fnDoubleWrong)

/-- 'laws.FnExactPairSwiss': WHATEVER THE INPUT: true; the input reads as it did. -/
def fnExactPairSwissSpec : ChangeSpec := { name := "fnExactPairSwiss", fn := fun _ => fun
  | [d1, d2] => { results := [.lit (.bool true)], args := [d1, d2] }
  | _ => none }
def fnExactPairSwissRow : OpenClaim := { program := "ytbaljgdepicigaa", sum := "451faf61c8922d9fd7a9e540a0ec8535c819e6dc7db7aab16115a660203fd964", func := "loop.example/g03205/laws.FnExactPairSwiss", spec := "fnExactPairSwiss", unfollowed := true, recurses := true, plainKeys := false, apart := false }
def FnExactPairSwissSaid : Prop := fnExactPairSwissRow.holds Try.pinned (OpenSpec.ofChange fnExactPairSwissSpec)

/-- ITS FALSE NEIGHBOUR: 'it returns false'. Refute it at one input. -/
def fnExactPairSwissWrong : ChangeSpec := { name := "fnExactPairSwiss", fn := fun _ => fun
  | [d1, d2] => { results := [.lit (.bool false)], args := [d1, d2] }
  | _ => none }
def FnExactPairSwissWrongFalsely : Prop := fnExactPairSwissRow.holds Try.pinned (OpenSpec.ofChange fnExactPairSwissWrong)

/-- 'laws.FnExactSwissPlay': WHATEVER THE INPUT: true; the input reads as it did. -/
def fnExactSwissPlaySpec : ChangeSpec := { name := "fnExactSwissPlay", fn := fun _ => fun
  | [d1, d2] => { results := [.lit (.bool true)], args := [d1, d2] }
  | _ => none }
def fnExactSwissPlayRow : OpenClaim := { program := "ytbaljgdepicigaa", sum := "451faf61c8922d9fd7a9e540a0ec8535c819e6dc7db7aab16115a660203fd964", func := "loop.example/g03205/laws.FnExactSwissPlay", spec := "fnExactSwissPlay", unfollowed := true, recurses := true, plainKeys := false, apart := false }
def FnExactSwissPlaySaid : Prop := fnExactSwissPlayRow.holds Try.pinned (OpenSpec.ofChange fnExactSwissPlaySpec)

/-- ITS FALSE NEIGHBOUR: 'it returns false'. Refute it at one input. -/
def fnExactSwissPlayWrong : ChangeSpec := { name := "fnExactSwissPlay", fn := fun _ => fun
  | [d1, d2] => { results := [.lit (.bool false)], args := [d1, d2] }
  | _ => none }
def FnExactSwissPlayWrongFalsely : Prop := fnExactSwissPlayRow.holds Try.pinned (OpenSpec.ofChange fnExactSwissPlayWrong)

/- THE SECOND FORM. 'bulk': how many values and letters a reading holds, each counted each time it is reached (what is shared counts as often as it is met; a slice's spare places count too). A statement '..UptoSaid' is the law's where the arguments, and the package variables that the reading takes, are together of bulk at most 1048576: NARROWER than '..Said'. Prove '..Said' where nothing that the law and all that it calls make is longer than what came in: it says more and counts as full. Else prove '..UptoSaid'. A law counts once. -/
mutual
def uptoBulk {H : Type} : DataW H → Nat
  | .lit (.string bytes) => bytes.length + 1
  | .lit _ => 1
  | .nil => 1
  | .ptr d => uptoBulk d + 1
  | .slice elems spare => uptoBulkAll elems + uptoBulkAll spare + 1
  | .agg parts => uptoBulkAll parts + 1
  | .iface _ d => uptoBulk d + 1
  | .map entries => uptoBulkEntries entries + 1
  | .held _ => 1
def uptoBulkAll {H : Type} : List (DataW H) → Nat
  | [] => 0
  | d :: r => uptoBulk d + uptoBulkAll r
def uptoBulkEntries {H : Type} : List (Lit × DataW H) → Nat
  | [] => 0
  | x :: r => uptoBulkEntry x + uptoBulkEntries r
def uptoBulkEntry {H : Type} : Lit × DataW H → Nat
  | (.string bytes, d) => bytes.length + uptoBulk d + 1
  | (_, d) => uptoBulk d + 1
 end
def uptoSmall : (H : Type) → List (DataW H) → Bool := fun _ ds => decide (uptoBulkAll ds ≤ 1048576)
def OpenSpec.upto (s : _root_.Go.ChangeSpec) : _root_.Go.OpenSpec := { _root_.Go.OpenSpec.ofChange s with cond := some uptoSmall }

/-- 'laws.FnSwiss', WHERE WHAT IT READS IS OF BULK AT MOST 1048576: true; the input reads as it did. -/
def fnSwissUptoRow : OpenClaim := { program := "ytbaljgdepicigaa", sum := "451faf61c8922d9fd7a9e540a0ec8535c819e6dc7db7aab16115a660203fd964", func := "loop.example/g03205/laws.FnSwiss", spec := "fnSwiss", unfollowed := true, recurses := true, plainKeys := false, apart := false, narrowed := true }
def FnSwissUptoSaid : Prop := fnSwissUptoRow.holds Try.pinned (OpenSpec.upto fnSwissSpec)

/-- 'laws.FnExactCountPairings', WHERE WHAT IT READS IS OF BULK AT MOST 1048576: true; the input reads as it did. -/
def fnExactCountPairingsUptoRow : OpenClaim := { program := "ytbaljgdepicigaa", sum := "451faf61c8922d9fd7a9e540a0ec8535c819e6dc7db7aab16115a660203fd964", func := "loop.example/g03205/laws.FnExactCountPairings", spec := "fnExactCountPairings", unfollowed := true, recurses := true, plainKeys := false, apart := false, narrowed := true }
def FnExactCountPairingsUptoSaid : Prop := fnExactCountPairingsUptoRow.holds Try.pinned (OpenSpec.upto fnExactCountPairingsSpec)

/-- 'laws.FnDays', WHERE WHAT IT READS IS OF BULK AT MOST 1048576: true; the input reads as it did. -/
def fnDaysUptoRow : OpenClaim := { program := "ytbaljgdepicigaa", sum := "451faf61c8922d9fd7a9e540a0ec8535c819e6dc7db7aab16115a660203fd964", func := "loop.example/g03205/laws.FnDays", spec := "fnDays", unfollowed := true, recurses := true, plainKeys := false, apart := false, narrowed := true }
def FnDaysUptoSaid : Prop := fnDaysUptoRow.holds Try.pinned (OpenSpec.upto fnDaysSpec)

/-- 'laws.FnExactLeastFloat', WHERE WHAT IT READS IS OF BULK AT MOST 1048576: true; the input reads as it did. -/
def fnExactLeastFloatUptoRow : OpenClaim := { program := "ytbaljgdepicigaa", sum := "451faf61c8922d9fd7a9e540a0ec8535c819e6dc7db7aab16115a660203fd964", func := "loop.example/g03205/laws.FnExactLeastFloat", spec := "fnExactLeastFloat", unfollowed := true, recurses := true, plainKeys := false, apart := false, narrowed := true }
def FnExactLeastFloatUptoSaid : Prop := fnExactLeastFloatUptoRow.holds Try.pinned (OpenSpec.upto fnExactLeastFloatSpec)

/-- 'laws.FnExactCountBracketsFor', WHERE WHAT IT READS IS OF BULK AT MOST 1048576: true; the input reads as it did. -/
def fnExactCountBracketsForUptoRow : OpenClaim := { program := "ytbaljgdepicigaa", sum := "451faf61c8922d9fd7a9e540a0ec8535c819e6dc7db7aab16115a660203fd964", func := "loop.example/g03205/laws.FnExactCountBracketsFor", spec := "fnExactCountBracketsFor", unfollowed := true, recurses := true, plainKeys := false, apart := false, narrowed := true }
def FnExactCountBracketsForUptoSaid : Prop := fnExactCountBracketsForUptoRow.holds Try.pinned (OpenSpec.upto fnExactCountBracketsForSpec)

/-- 'laws.FnExactBracketFor', WHERE WHAT IT READS IS OF BULK AT MOST 1048576: true; the input reads as it did. -/
def fnExactBracketForUptoRow : OpenClaim := { program := "ytbaljgdepicigaa", sum := "451faf61c8922d9fd7a9e540a0ec8535c819e6dc7db7aab16115a660203fd964", func := "loop.example/g03205/laws.FnExactBracketFor", spec := "fnExactBracketFor", unfollowed := true, recurses := true, plainKeys := false, apart := false, narrowed := true }
def FnExactBracketForUptoSaid : Prop := fnExactBracketForUptoRow.holds Try.pinned (OpenSpec.upto fnExactBracketForSpec)

/-- 'laws.FnTravel', WHERE WHAT IT READS IS OF BULK AT MOST 1048576: true; the input reads as it did. -/
def fnTravelUptoRow : OpenClaim := { program := "ytbaljgdepicigaa", sum := "451faf61c8922d9fd7a9e540a0ec8535c819e6dc7db7aab16115a660203fd964", func := "loop.example/g03205/laws.FnTravel", spec := "fnTravel", unfollowed := true, recurses := true, plainKeys := false, apart := false, narrowed := true }
def FnTravelUptoSaid : Prop := fnTravelUptoRow.holds Try.pinned (OpenSpec.upto fnTravelSpec)

/-- 'laws.FnDouble', WHERE WHAT IT READS IS OF BULK AT MOST 1048576: true; the input reads as it did. -/
def fnDoubleUptoRow : OpenClaim := { program := "ytbaljgdepicigaa", sum := "451faf61c8922d9fd7a9e540a0ec8535c819e6dc7db7aab16115a660203fd964", func := "loop.example/g03205/laws.FnDouble", spec := "fnDouble", unfollowed := true, recurses := true, plainKeys := false, apart := false, narrowed := true }
def FnDoubleUptoSaid : Prop := fnDoubleUptoRow.holds Try.pinned (OpenSpec.upto fnDoubleSpec)

/-- 'laws.FnExactPairSwiss', WHERE WHAT IT READS IS OF BULK AT MOST 1048576: true; the input reads as it did. -/
def fnExactPairSwissUptoRow : OpenClaim := { program := "ytbaljgdepicigaa", sum := "451faf61c8922d9fd7a9e540a0ec8535c819e6dc7db7aab16115a660203fd964", func := "loop.example/g03205/laws.FnExactPairSwiss", spec := "fnExactPairSwiss", unfollowed := true, recurses := true, plainKeys := false, apart := false, narrowed := true }
def FnExactPairSwissUptoSaid : Prop := fnExactPairSwissUptoRow.holds Try.pinned (OpenSpec.upto fnExactPairSwissSpec)

/-- 'laws.FnExactSwissPlay', WHERE WHAT IT READS IS OF BULK AT MOST 1048576: true; the input reads as it did. -/
def fnExactSwissPlayUptoRow : OpenClaim := { program := "ytbaljgdepicigaa", sum := "451faf61c8922d9fd7a9e540a0ec8535c819e6dc7db7aab16115a660203fd964", func := "loop.example/g03205/laws.FnExactSwissPlay", spec := "fnExactSwissPlay", unfollowed := true, recurses := true, plainKeys := false, apart := false, narrowed := true }
def FnExactSwissPlayUptoSaid : Prop := fnExactSwissPlayUptoRow.holds Try.pinned (OpenSpec.upto fnExactSwissPlaySpec)

end Rows
end Go.Proofs.Ytbaljgdepicigaa
