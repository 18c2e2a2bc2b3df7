/-
  No cell of these rows narrows 'for every input' (looked for: loops, veiled, ifaces, maps, wideKeys, modest, calm, conditions, laid).
  DERIVED. THE GIVEN ROWS OF THIS SEAT. 9 by the template 'for every input the law returns true; each argument reads behind the call as it read before'; 0 by the template 'total and deterministic' (their statements: YtbomkieemacagaaTotals.lean).
  GIVEN WITH THE SEED: the statements are not yours to turn. If you find one false, say at which input.
  Laid BY PROGRAM, IN A SANDBOX (cutbox-rows.mjs): the forced cells as the released guide's own fill.sh prints them over the translation 7ba1ec5416a9e6d7… (all of the seat's roots in one cut). By AI agents, Wed Nov 11 2026. No macro, syntax, notation, axiom, sorry.
-/
import Derived.Test.YtbomkieemacagaaChecked
import GoSem.Claim
import GoSem.ClaimJoined
import GoSem.ClaimMapViews
import Derived.JoinedTies
import Derived.KernelRfl
namespace Go.Proofs.Ytbomkieemacagaa
/- THE CELL 'sum', in the pinned program and in every row, IS THE sha256 OF THE DUMP (.gsa) THAT YtbomkieemacagaaProg.lean LOADS. Nothing in Lean hashes anything: it is a label: what it is worth is what the hold of that sum in a sandbox is worth. -/
noncomputable def Try.pinned : Pinned := { name := "ytbomkieemacagaa", sum := "7ba1ec5416a9e6d71326a0f56e9936a3a2353ef4ac1235197a7729579a5cb24c", checked := Try.checked }
namespace Rows
def none {H : Type} : Left H := { results := [], args := [] }

/-- 'laws.FnExactSwissOk': WHATEVER THE INPUT: true; the input reads as it did. -/
def fnExactSwissOkSpec : ChangeSpec := { name := "fnExactSwissOk", fn := fun _ => fun
  | [d1, d2] => { results := [.lit (.bool true)], args := [d1, d2] }
  | _ => none }
def fnExactSwissOkRow : OpenClaim := { program := "ytbomkieemacagaa", sum := "7ba1ec5416a9e6d71326a0f56e9936a3a2353ef4ac1235197a7729579a5cb24c", func := "loop.example/g03205/laws.FnExactSwissOk", spec := "fnExactSwissOk", unfollowed := true, recurses := true, apart := false }
def FnExactSwissOkSaid : Prop := fnExactSwissOkRow.holds Try.pinned (OpenSpec.ofChange fnExactSwissOkSpec)

/-- ITS FALSE NEIGHBOUR: 'it returns false'. Refute it at one input. -/
def fnExactSwissOkWrong : ChangeSpec := { name := "fnExactSwissOk", fn := fun _ => fun
  | [d1, d2] => { results := [.lit (.bool false)], args := [d1, d2] }
  | _ => none }
def FnExactSwissOkWrongFalsely : Prop := fnExactSwissOkRow.holds Try.pinned (OpenSpec.ofChange fnExactSwissOkWrong)

/-- 'laws.FnExactFloatOf': WHATEVER THE INPUT: true; the input reads as it did. -/
def fnExactFloatOfSpec : ChangeSpec := { name := "fnExactFloatOf", fn := fun _ => fun
  | [d1, d2] => { results := [.lit (.bool true)], args := [d1, d2] }
  | _ => none }
def fnExactFloatOfRow : OpenClaim := { program := "ytbomkieemacagaa", sum := "7ba1ec5416a9e6d71326a0f56e9936a3a2353ef4ac1235197a7729579a5cb24c", func := "loop.example/g03205/laws.FnExactFloatOf", spec := "fnExactFloatOf", unfollowed := true, recurses := true, apart := false }
def FnExactFloatOfSaid : Prop := fnExactFloatOfRow.holds Try.pinned (OpenSpec.ofChange fnExactFloatOfSpec)

/-- ITS FALSE NEIGHBOUR: 'it returns false'. Refute it at one input. -/
def fnExactFloatOfWrong : ChangeSpec := { name := "fnExactFloatOf", fn := fun _ => fun
  | [d1, d2] => { results := [.lit (.bool false)], args := [d1, d2] }
  | _ => none }
def FnExactFloatOfWrongFalsely : Prop := fnExactFloatOfRow.holds Try.pinned (OpenSpec.ofChange fnExactFloatOfWrong)

/-- 'laws.FnExactIsPairing': WHATEVER THE INPUT: true; the input reads as it did. -/
def fnExactIsPairingSpec : ChangeSpec := { name := "fnExactIsPairing", fn := fun _ => fun
  | [d1, d2, d3] => { results := [.lit (.bool true)], args := [d1, d2, d3] }
  | _ => none }
def fnExactIsPairingRow : OpenClaim := { program := "ytbomkieemacagaa", sum := "7ba1ec5416a9e6d71326a0f56e9936a3a2353ef4ac1235197a7729579a5cb24c", func := "loop.example/g03205/laws.FnExactIsPairing", spec := "fnExactIsPairing", unfollowed := true, recurses := true, apart := false }
def FnExactIsPairingSaid : Prop := fnExactIsPairingRow.holds Try.pinned (OpenSpec.ofChange fnExactIsPairingSpec)

/-- ITS FALSE NEIGHBOUR: 'it returns false'. Refute it at one input. -/
def fnExactIsPairingWrong : ChangeSpec := { name := "fnExactIsPairing", fn := fun _ => fun
  | [d1, d2, d3] => { results := [.lit (.bool false)], args := [d1, d2, d3] }
  | _ => none }
def FnExactIsPairingWrongFalsely : Prop := fnExactIsPairingRow.holds Try.pinned (OpenSpec.ofChange fnExactIsPairingWrong)

/-- 'laws.FnExactCountPairings': WHATEVER THE INPUT: true; the input reads as it did. -/
def fnExactCountPairingsSpec : ChangeSpec := { name := "fnExactCountPairings", fn := fun _ => fun
  | [d1, d2] => { results := [.lit (.bool true)], args := [d1, d2] }
  | _ => none }
def fnExactCountPairingsRow : OpenClaim := { program := "ytbomkieemacagaa", sum := "7ba1ec5416a9e6d71326a0f56e9936a3a2353ef4ac1235197a7729579a5cb24c", func := "loop.example/g03205/laws.FnExactCountPairings", spec := "fnExactCountPairings", unfollowed := true, recurses := true, apart := false }
def FnExactCountPairingsSaid : Prop := fnExactCountPairingsRow.holds Try.pinned (OpenSpec.ofChange fnExactCountPairingsSpec)

/-- ITS FALSE NEIGHBOUR: 'it returns false'. Refute it at one input. -/
def fnExactCountPairingsWrong : ChangeSpec := { name := "fnExactCountPairings", fn := fun _ => fun
  | [d1, d2] => { results := [.lit (.bool false)], args := [d1, d2] }
  | _ => none }
def FnExactCountPairingsWrongFalsely : Prop := fnExactCountPairingsRow.holds Try.pinned (OpenSpec.ofChange fnExactCountPairingsWrong)

/-- 'laws.FnExactLeastFloat': WHATEVER THE INPUT: true; the input reads as it did. -/
def fnExactLeastFloatSpec : ChangeSpec := { name := "fnExactLeastFloat", fn := fun _ => fun
  | [d1, d2] => { results := [.lit (.bool true)], args := [d1, d2] }
  | _ => none }
def fnExactLeastFloatRow : OpenClaim := { program := "ytbomkieemacagaa", sum := "7ba1ec5416a9e6d71326a0f56e9936a3a2353ef4ac1235197a7729579a5cb24c", func := "loop.example/g03205/laws.FnExactLeastFloat", spec := "fnExactLeastFloat", unfollowed := true, recurses := true, apart := false }
def FnExactLeastFloatSaid : Prop := fnExactLeastFloatRow.holds Try.pinned (OpenSpec.ofChange fnExactLeastFloatSpec)

/-- ITS FALSE NEIGHBOUR: 'it returns false'. Refute it at one input. -/
def fnExactLeastFloatWrong : ChangeSpec := { name := "fnExactLeastFloat", fn := fun _ => fun
  | [d1, d2] => { results := [.lit (.bool false)], args := [d1, d2] }
  | _ => none }
def FnExactLeastFloatWrongFalsely : Prop := fnExactLeastFloatRow.holds Try.pinned (OpenSpec.ofChange fnExactLeastFloatWrong)

/-- 'laws.FnExactSwissOrder': WHATEVER THE INPUT: true; the input reads as it did. -/
def fnExactSwissOrderSpec : ChangeSpec := { name := "fnExactSwissOrder", fn := fun _ => fun
  | [d] => { results := [.lit (.bool true)], args := [d] }
  | _ => none }
def fnExactSwissOrderRow : OpenClaim := { program := "ytbomkieemacagaa", sum := "7ba1ec5416a9e6d71326a0f56e9936a3a2353ef4ac1235197a7729579a5cb24c", func := "loop.example/g03205/laws.FnExactSwissOrder", spec := "fnExactSwissOrder", unfollowed := true, recurses := true, apart := false }
def FnExactSwissOrderSaid : Prop := fnExactSwissOrderRow.holds Try.pinned (OpenSpec.ofChange fnExactSwissOrderSpec)

/-- ITS FALSE NEIGHBOUR: 'it returns false'. Refute it at one input. -/
def fnExactSwissOrderWrong : ChangeSpec := { name := "fnExactSwissOrder", fn := fun _ => fun
  | [d] => { results := [.lit (.bool false)], args := [d] }
  | _ => none }
def FnExactSwissOrderWrongFalsely : Prop := fnExactSwissOrderRow.holds Try.pinned (OpenSpec.ofChange fnExactSwissOrderWrong)

/-- 'laws.FnExactPairSwiss': WHATEVER THE INPUT: true; the input reads as it did. -/
def fnExactPairSwissSpec : ChangeSpec := { name := "fnExactPairSwiss", fn := fun _ => fun
  | [d1, d2] => { results := [.lit (.bool true)], args := [d1, d2] }
  | _ => none }
def fnExactPairSwissRow : OpenClaim := { program := "ytbomkieemacagaa", sum := "7ba1ec5416a9e6d71326a0f56e9936a3a2353ef4ac1235197a7729579a5cb24c", func := "loop.example/g03205/laws.FnExactPairSwiss", spec := "fnExactPairSwiss", unfollowed := true, recurses := true, apart := false }
def FnExactPairSwissSaid : Prop := fnExactPairSwissRow.holds Try.pinned (OpenSpec.ofChange fnExactPairSwissSpec)

/-- ITS FALSE NEIGHBOUR: 'it returns false'. Refute it at one input. -/
def fnExactPairSwissWrong : ChangeSpec := { name := "fnExactPairSwiss", fn := fun _ => fun
  | [d1, d2] => { results := [.lit (.bool false)], args := [d1, d2] }
  | _ => none }
def FnExactPairSwissWrongFalsely : Prop := fnExactPairSwissRow.holds Try.pinned (OpenSpec.ofChange fnExactPairSwissWrong)

/-- 'laws.FnExactSwissPlay': WHATEVER THE INPUT: true; the input reads as it did. -/
def fnExactSwissPlaySpec : ChangeSpec := { name := "fnExactSwissPlay", fn := fun _ => fun
  | [d1, d2] => { results := [.lit (.bool true)], args := [d1, d2] }
  | _ => none }
def fnExactSwissPlayRow : OpenClaim := { program := "ytbomkieemacagaa", sum := "7ba1ec5416a9e6d71326a0f56e9936a3a2353ef4ac1235197a7729579a5cb24c", func := "loop.example/g03205/laws.FnExactSwissPlay", spec := "fnExactSwissPlay", unfollowed := true, recurses := true, apart := false }
def FnExactSwissPlaySaid : Prop := fnExactSwissPlayRow.holds Try.pinned (OpenSpec.ofChange fnExactSwissPlaySpec)

/-- ITS FALSE NEIGHBOUR: 'it returns false'. Refute it at one input. -/
def fnExactSwissPlayWrong : ChangeSpec := { name := "fnExactSwissPlay", fn := fun _ => fun
  | [d1, d2] => { results := [.lit (.bool false)], args := [d1, d2] }
  | _ => none }
def FnExactSwissPlayWrongFalsely : Prop := fnExactSwissPlayRow.holds Try.pinned (OpenSpec.ofChange fnExactSwissPlayWrong)

/-- 'laws.FnSwiss': WHATEVER THE INPUT: true; the input reads as it did. -/
def fnSwissSpec : ChangeSpec := { name := "fnSwiss", fn := fun _ => fun
  | [d] => { results := [.lit (.bool true)], args := [d] }
  | _ => none }
def fnSwissRow : OpenClaim := { program := "ytbomkieemacagaa", sum := "7ba1ec5416a9e6d71326a0f56e9936a3a2353ef4ac1235197a7729579a5cb24c", func := "loop.example/g03205/laws.FnSwiss", spec := "fnSwiss", unfollowed := true, recurses := true, apart := false }
def FnSwissSaid : Prop := fnSwissRow.holds Try.pinned (OpenSpec.ofChange fnSwissSpec)

/-- ITS FALSE NEIGHBOUR: 'it returns false'. Refute it at one input. -/
def fnSwissWrong : ChangeSpec := { name := "fnSwiss", fn := fun _ => fun
  | [d] => { results := [.lit (.bool false)], args := [d] }
  | _ => none }
def FnSwissWrongFalsely : Prop := fnSwissRow.holds Try.pinned (OpenSpec.ofChange fnSwissWrong)

/- THE SECOND FORM. 'bulk': how many values and letters a reading holds, each counted each time it is reached (what is shared counts as often as it is met; a slice's spare places count too). A statement '..UptoSaid' is the law's where the arguments, and the package variables that the reading takes, are together of bulk at most 1048576: NARROWER than '..Said'. Prove '..Said' where nothing that the law and all that it calls make is longer than what came in: it says more and counts as full. Else prove '..UptoSaid'. A law counts once. -/
mutual
def uptoBulk {H : Type} : DataW H → Nat
  | .lit (.string bytes) => bytes.length + 1
  | .lit _ => 1
  | .nil => 1
  | .ptr d => uptoBulk d + 1
  | .slice elems spare => uptoBulkAll elems + uptoBulkAll spare + 1
  | .agg parts => uptoBulkAll parts + 1
  | .iface _ d => uptoBulk d + 1
  | .map entries => uptoBulkEntries entries + 1
  | .held _ => 1
def uptoBulkAll {H : Type} : List (DataW H) → Nat
  | [] => 0
  | d :: r => uptoBulk d + uptoBulkAll r
def uptoBulkEntries {H : Type} : List (Lit × DataW H) → Nat
  | [] => 0
  | x :: r => uptoBulkEntry x + uptoBulkEntries r
def uptoBulkEntry {H : Type} : Lit × DataW H → Nat
  | (.string bytes, d) => bytes.length + uptoBulk d + 1
  | (_, d) => uptoBulk d + 1
 end
def uptoSmall : (H : Type) → List (DataW H) → Bool := fun _ ds => decide (uptoBulkAll ds ≤ 1048576)
def OpenSpec.upto (s : _root_.Go.ChangeSpec) : _root_.Go.OpenSpec := { _root_.Go.OpenSpec.ofChange s with cond := some uptoSmall }

/-- 'laws.FnExactSwissOk', WHERE WHAT IT READS IS OF BULK AT MOST 1048576: true; the input reads as it did. -/
def fnExactSwissOkUptoRow : OpenClaim := { program := "ytbomkieemacagaa", sum := "7ba1ec5416a9e6d71326a0f56e9936a3a2353ef4ac1235197a7729579a5cb24c", func := "loop.example/g03205/laws.FnExactSwissOk", spec := "fnExactSwissOk", unfollowed := true, recurses := true, apart := false, narrowed := true }
def FnExactSwissOkUptoSaid : Prop := fnExactSwissOkUptoRow.holds Try.pinned (OpenSpec.upto fnExactSwissOkSpec)

/-- 'laws.FnExactFloatOf', WHERE WHAT IT READS IS OF BULK AT MOST 1048576: true; the input reads as it did. -/
def fnExactFloatOfUptoRow : OpenClaim := { program := "ytbomkieemacagaa", sum := "7ba1ec5416a9e6d71326a0f56e9936a3a2353ef4ac1235197a7729579a5cb24c", func := "loop.example/g03205/laws.FnExactFloatOf", spec := "fnExactFloatOf", unfollowed := true, recurses := true, apart := false, narrowed := true }
def FnExactFloatOfUptoSaid : Prop := fnExactFloatOfUptoRow.holds Try.pinned (OpenSpec.upto fnExactFloatOfSpec)

/-- 'laws.FnExactIsPairing', WHERE WHAT IT READS IS OF BULK AT MOST 1048576: true; the input reads as it did. -/
def fnExactIsPairingUptoRow : OpenClaim := { program := "ytbomkieemacagaa", sum := "7ba1ec5416a9e6d71326a0f56e9936a3a2353ef4ac1235197a7729579a5cb24c", func := "loop.example/g03205/laws.FnExactIsPairing", spec := "fnExactIsPairing", unfollowed := true, recurses := true, apart := false, narrowed := true }
def FnExactIsPairingUptoSaid : Prop := fnExactIsPairingUptoRow.holds Try.pinned (OpenSpec.upto fnExactIsPairingSpec)

/-- 'laws.FnExactCountPairings', WHERE WHAT IT READS IS OF BULK AT MOST 1048576: true; the input reads as it did. -/
def fnExactCountPairingsUptoRow : OpenClaim := { program := "ytbomkieemacagaa", sum := "7ba1ec5416a9e6d71326a0f56e9936a3a2353ef4ac1235197a7729579a5cb24c", func := "loop.example/g03205/laws.FnExactCountPairings", spec := "fnExactCountPairings", unfollowed := true, recurses := true, apart := false, narrowed := true }
def FnExactCountPairingsUptoSaid : Prop := fnExactCountPairingsUptoRow.holds Try.pinned (OpenSpec.upto fnExactCountPairingsSpec)

/-- 'laws.FnExactLeastFloat', WHERE WHAT IT READS IS OF BULK AT MOST 1048576: true; the input reads as it did. -/
def fnExactLeastFloatUptoRow : OpenClaim := { program := "ytbomkieemacagaa", sum := "7ba1ec5416a9e6d71326a0f56e9936a3a2353ef4ac1235197a7729579a5cb24c", func := "loop.example/g03205/laws.FnExactLeastFloat", spec := "fnExactLeastFloat", unfollowed := true, recurses := true, apart := false, narrowed := true }
def FnExactLeastFloatUptoSaid : Prop := fnExactLeastFloatUptoRow.holds Try.pinned (OpenSpec.upto fnExactLeastFloatSpec)

/-- 'laws.FnExactSwissOrder', WHERE WHAT IT READS IS OF BULK AT MOST 1048576: true; the input reads as it did. -/
def fnExactSwissOrderUptoRow : OpenClaim := { program := "ytbomkieemacagaa", sum := "7ba1ec5416a9e6d71326a0f56e9936a3a2353ef4ac1235197a7729579a5cb24c", func := "loop.example/g03205/laws.FnExactSwissOrder", spec := "fnExactSwissOrder", unfollowed := true, recurses := true, apart := false, narrowed := true }
def FnExactSwissOrderUptoSaid : Prop := fnExactSwissOrderUptoRow.holds Try.pinned (OpenSpec.upto fnExactSwissOrderSpec)

/-- 'laws.FnExactPairSwiss', WHERE WHAT IT READS IS OF BULK AT MOST 1048576: true; the input reads as it did. -/
def fnExactPairSwissUptoRow : OpenClaim := { program := "ytbomkieemacagaa", sum := "7ba1ec5416a9e6d71326a0f56e9936a3a2353ef4ac1235197a7729579a5cb24c", func := "loop.example/g03205/laws.FnExactPairSwiss", spec := "fnExactPairSwiss", unfollowed := true, recurses := true, apart := false, narrowed := true }
def FnExactPairSwissUptoSaid : Prop := fnExactPairSwissUptoRow.holds Try.pinned (OpenSpec.upto fnExactPairSwissSpec)

/-- 'laws.FnExactSwissPlay', WHERE WHAT IT READS IS OF BULK AT MOST 1048576: true; the input reads as it did. -/
def fnExactSwissPlayUptoRow : OpenClaim := { program := "ytbomkieemacagaa", sum := "7ba1ec5416a9e6d71326a0f56e9936a3a2353ef4ac1235197a7729579a5cb24c", func := "loop.example/g03205/laws.FnExactSwissPlay", spec := "fnExactSwissPlay", unfollowed := true, recurses := true, apart := false, narrowed := true }
def FnExactSwissPlayUptoSaid : Prop := fnExactSwissPlayUptoRow.holds Try.pinned (OpenSpec.upto fnExactSwissPlaySpec)

/-- 'laws.FnSwiss', WHERE WHAT IT READS IS OF BULK AT MOST 1048576: true; the input reads as it did. -/
def fnSwissUptoRow : OpenClaim := { program := "ytbomkieemacagaa", sum := "7ba1ec5416a9e6d71326a0f56e9936a3a2353ef4ac1235197a7729579a5cb24c", func := "loop.example/g03205/laws.FnSwiss", spec := "fnSwiss", unfollowed := true, recurses := true, apart := false, narrowed := true }
def FnSwissUptoSaid : Prop := fnSwissUptoRow.holds Try.pinned (OpenSpec.upto fnSwissSpec)

end Rows
end Go.Proofs.Ytbomkieemacagaa
