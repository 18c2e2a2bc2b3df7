/-
  No cell of these rows narrows 'for every input' (looked for: loops, veiled, ifaces, maps, wideKeys, modest, calm, conditions, laid).
  DERIVED. THE GIVEN ROWS OF THIS SEAT. 7 by the template 'for every input the law returns true; each argument reads behind the call as it read before'; 0 by the template 'total and deterministic' (their statements: YtolmelpdhdhcgaaTotals.lean).
  GIVEN WITH THE SEED: the statements are not yours to turn. If you find one false, say at which input.
  Laid BY PROGRAM, IN A SANDBOX (cutbox-rows.mjs): the forced cells as the released guide's own fill.sh prints them over the translation 5028ae8ec4c5c9df… (all of the seat's roots in one cut). By AI agents, Wed Nov 11 2026. No macro, syntax, notation, axiom, sorry.
-/
import Derived.Test.YtolmelpdhdhcgaaChecked
import GoSem.Claim
import GoSem.ClaimJoined
import GoSem.ClaimMapViews
import Derived.JoinedTies
import Derived.KernelRfl
namespace Go.Proofs.Ytolmelpdhdhcgaa
/- THE CELL 'sum', in the pinned program and in every row, IS THE sha256 OF THE DUMP (.gsa) THAT YtolmelpdhdhcgaaProg.lean LOADS. Nothing in Lean hashes anything: it is a label: what it is worth is what the hold of that sum in a sandbox is worth. -/
noncomputable def Try.pinned : Pinned := { name := "ytolmelpdhdhcgaa", sum := "5028ae8ec4c5c9dfc10087646e622ffd37add82b9d094255b867bf67e3f0bc99", checked := Try.checked }
namespace Rows
def none {H : Type} : Left H := { results := [], args := [] }

/-- 'laws.FnExactBracketOk': WHATEVER THE INPUT: true; the input reads as it did. -/
def fnExactBracketOkSpec : ChangeSpec := { name := "fnExactBracketOk", fn := fun _ => fun
  | [d1, d2] => { results := [.lit (.bool true)], args := [d1, d2] }
  | _ => none }
def fnExactBracketOkRow : OpenClaim := { program := "ytolmelpdhdhcgaa", sum := "5028ae8ec4c5c9dfc10087646e622ffd37add82b9d094255b867bf67e3f0bc99", func := "loop.example/g03205/laws.FnExactBracketOk", spec := "fnExactBracketOk", unfollowed := true, recurses := true, apart := false }
def FnExactBracketOkSaid : Prop := fnExactBracketOkRow.holds Try.pinned (OpenSpec.ofChange fnExactBracketOkSpec)

/-- ITS FALSE NEIGHBOUR: 'it returns false'. Refute it at one input. -/
def fnExactBracketOkWrong : ChangeSpec := { name := "fnExactBracketOk", fn := fun _ => fun
  | [d1, d2] => { results := [.lit (.bool false)], args := [d1, d2] }
  | _ => none }
def FnExactBracketOkWrongFalsely : Prop := fnExactBracketOkRow.holds Try.pinned (OpenSpec.ofChange fnExactBracketOkWrong)

/-- 'laws.FnExactNextRound': WHATEVER THE INPUT: true; the input reads as it did. -/
def fnExactNextRoundSpec : ChangeSpec := { name := "fnExactNextRound", fn := fun _ => fun
  | [d1, d2] => { results := [.lit (.bool true)], args := [d1, d2] }
  | _ => none }
def fnExactNextRoundRow : OpenClaim := { program := "ytolmelpdhdhcgaa", sum := "5028ae8ec4c5c9dfc10087646e622ffd37add82b9d094255b867bf67e3f0bc99", func := "loop.example/g03205/laws.FnExactNextRound", spec := "fnExactNextRound", unfollowed := true, recurses := true, apart := false }
def FnExactNextRoundSaid : Prop := fnExactNextRoundRow.holds Try.pinned (OpenSpec.ofChange fnExactNextRoundSpec)

/-- ITS FALSE NEIGHBOUR: 'it returns false'. Refute it at one input. -/
def fnExactNextRoundWrong : ChangeSpec := { name := "fnExactNextRound", fn := fun _ => fun
  | [d1, d2] => { results := [.lit (.bool false)], args := [d1, d2] }
  | _ => none }
def FnExactNextRoundWrongFalsely : Prop := fnExactNextRoundRow.holds Try.pinned (OpenSpec.ofChange fnExactNextRoundWrong)

/-- 'laws.FnExactWinnerOf': WHATEVER THE INPUT: true; the input reads as it did. -/
def fnExactWinnerOfSpec : ChangeSpec := { name := "fnExactWinnerOf", fn := fun _ => fun
  | [d1, d2] => { results := [.lit (.bool true)], args := [d1, d2] }
  | _ => none }
def fnExactWinnerOfRow : OpenClaim := { program := "ytolmelpdhdhcgaa", sum := "5028ae8ec4c5c9dfc10087646e622ffd37add82b9d094255b867bf67e3f0bc99", func := "loop.example/g03205/laws.FnExactWinnerOf", spec := "fnExactWinnerOf", unfollowed := true, recurses := true, apart := false }
def FnExactWinnerOfSaid : Prop := fnExactWinnerOfRow.holds Try.pinned (OpenSpec.ofChange fnExactWinnerOfSpec)

/-- ITS FALSE NEIGHBOUR: 'it returns false'. Refute it at one input. -/
def fnExactWinnerOfWrong : ChangeSpec := { name := "fnExactWinnerOf", fn := fun _ => fun
  | [d1, d2] => { results := [.lit (.bool false)], args := [d1, d2] }
  | _ => none }
def FnExactWinnerOfWrongFalsely : Prop := fnExactWinnerOfRow.holds Try.pinned (OpenSpec.ofChange fnExactWinnerOfWrong)

/-- 'laws.FnExactBeatenBy': WHATEVER THE INPUT: true; the input reads as it did. -/
def fnExactBeatenBySpec : ChangeSpec := { name := "fnExactBeatenBy", fn := fun _ => fun
  | [d1, d2, d3] => { results := [.lit (.bool true)], args := [d1, d2, d3] }
  | _ => none }
def fnExactBeatenByRow : OpenClaim := { program := "ytolmelpdhdhcgaa", sum := "5028ae8ec4c5c9dfc10087646e622ffd37add82b9d094255b867bf67e3f0bc99", func := "loop.example/g03205/laws.FnExactBeatenBy", spec := "fnExactBeatenBy", unfollowed := true, recurses := true, apart := false }
def FnExactBeatenBySaid : Prop := fnExactBeatenByRow.holds Try.pinned (OpenSpec.ofChange fnExactBeatenBySpec)

/-- ITS FALSE NEIGHBOUR: 'it returns false'. Refute it at one input. -/
def fnExactBeatenByWrong : ChangeSpec := { name := "fnExactBeatenBy", fn := fun _ => fun
  | [d1, d2, d3] => { results := [.lit (.bool false)], args := [d1, d2, d3] }
  | _ => none }
def FnExactBeatenByWrongFalsely : Prop := fnExactBeatenByRow.holds Try.pinned (OpenSpec.ofChange fnExactBeatenByWrong)

/-- 'laws.FnExactMeetingRound': WHATEVER THE INPUT: true; the input reads as it did. -/
def fnExactMeetingRoundSpec : ChangeSpec := { name := "fnExactMeetingRound", fn := fun _ => fun
  | [d1, d2, d3, d4] => { results := [.lit (.bool true)], args := [d1, d2, d3, d4] }
  | _ => none }
def fnExactMeetingRoundRow : OpenClaim := { program := "ytolmelpdhdhcgaa", sum := "5028ae8ec4c5c9dfc10087646e622ffd37add82b9d094255b867bf67e3f0bc99", func := "loop.example/g03205/laws.FnExactMeetingRound", spec := "fnExactMeetingRound", unfollowed := true, recurses := true, apart := false }
def FnExactMeetingRoundSaid : Prop := fnExactMeetingRoundRow.holds Try.pinned (OpenSpec.ofChange fnExactMeetingRoundSpec)

/-- ITS FALSE NEIGHBOUR: 'it returns false'. Refute it at one input. -/
def fnExactMeetingRoundWrong : ChangeSpec := { name := "fnExactMeetingRound", fn := fun _ => fun
  | [d1, d2, d3, d4] => { results := [.lit (.bool false)], args := [d1, d2, d3, d4] }
  | _ => none }
def FnExactMeetingRoundWrongFalsely : Prop := fnExactMeetingRoundRow.holds Try.pinned (OpenSpec.ofChange fnExactMeetingRoundWrong)

/-- 'laws.FnExactIsMonotone': WHATEVER THE INPUT: true; the input reads as it did. -/
def fnExactIsMonotoneSpec : ChangeSpec := { name := "fnExactIsMonotone", fn := fun _ => fun
  | [d] => { results := [.lit (.bool true)], args := [d] }
  | _ => none }
def fnExactIsMonotoneRow : OpenClaim := { program := "ytolmelpdhdhcgaa", sum := "5028ae8ec4c5c9dfc10087646e622ffd37add82b9d094255b867bf67e3f0bc99", func := "loop.example/g03205/laws.FnExactIsMonotone", spec := "fnExactIsMonotone", unfollowed := true, recurses := true, apart := false }
def FnExactIsMonotoneSaid : Prop := fnExactIsMonotoneRow.holds Try.pinned (OpenSpec.ofChange fnExactIsMonotoneSpec)

/-- ITS FALSE NEIGHBOUR: 'it returns false'. Refute it at one input. -/
def fnExactIsMonotoneWrong : ChangeSpec := { name := "fnExactIsMonotone", fn := fun _ => fun
  | [d] => { results := [.lit (.bool false)], args := [d] }
  | _ => none }
def FnExactIsMonotoneWrongFalsely : Prop := fnExactIsMonotoneRow.holds Try.pinned (OpenSpec.ofChange fnExactIsMonotoneWrong)

/-- 'laws.FnExactSameBracket': WHATEVER THE INPUT: true; the input reads as it did. -/
def fnExactSameBracketSpec : ChangeSpec := { name := "fnExactSameBracket", fn := fun _ => fun
  | [d1, d2] => { results := [.lit (.bool true)], args := [d1, d2] }
  | _ => none }
def fnExactSameBracketRow : OpenClaim := { program := "ytolmelpdhdhcgaa", sum := "5028ae8ec4c5c9dfc10087646e622ffd37add82b9d094255b867bf67e3f0bc99", func := "loop.example/g03205/laws.FnExactSameBracket", spec := "fnExactSameBracket", unfollowed := true, recurses := true, apart := false }
def FnExactSameBracketSaid : Prop := fnExactSameBracketRow.holds Try.pinned (OpenSpec.ofChange fnExactSameBracketSpec)

/-- ITS FALSE NEIGHBOUR: 'it returns false'. Refute it at one input. -/
def fnExactSameBracketWrong : ChangeSpec := { name := "fnExactSameBracket", fn := fun _ => fun
  | [d1, d2] => { results := [.lit (.bool false)], args := [d1, d2] }
  | _ => none }
def FnExactSameBracketWrongFalsely : Prop := fnExactSameBracketRow.holds Try.pinned (OpenSpec.ofChange fnExactSameBracketWrong)

/- THE SECOND FORM. 'bulk': how many values and letters a reading holds, each counted each time it is reached (what is shared counts as often as it is met; a slice's spare places count too). A statement '..UptoSaid' is the law's where the arguments, and the package variables that the reading takes, are together of bulk at most 1048576: NARROWER than '..Said'. Prove '..Said' where nothing that the law and all that it calls make is longer than what came in: it says more and counts as full. Else prove '..UptoSaid'. A law counts once. -/
mutual
def uptoBulk {H : Type} : DataW H → Nat
  | .lit (.string bytes) => bytes.length + 1
  | .lit _ => 1
  | .nil => 1
  | .ptr d => uptoBulk d + 1
  | .slice elems spare => uptoBulkAll elems + uptoBulkAll spare + 1
  | .agg parts => uptoBulkAll parts + 1
  | .iface _ d => uptoBulk d + 1
  | .map entries => uptoBulkEntries entries + 1
  | .held _ => 1
def uptoBulkAll {H : Type} : List (DataW H) → Nat
  | [] => 0
  | d :: r => uptoBulk d + uptoBulkAll r
def uptoBulkEntries {H : Type} : List (Lit × DataW H) → Nat
  | [] => 0
  | x :: r => uptoBulkEntry x + uptoBulkEntries r
def uptoBulkEntry {H : Type} : Lit × DataW H → Nat
  | (.string bytes, d) => bytes.length + uptoBulk d + 1
  | (_, d) => uptoBulk d + 1
 end
def uptoSmall : (H : Type) → List (DataW H) → Bool := fun _ ds => decide (uptoBulkAll ds ≤ 1048576)
def OpenSpec.upto (s : _root_.Go.ChangeSpec) : _root_.Go.OpenSpec := { _root_.Go.OpenSpec.ofChange s with cond := some uptoSmall }

/-- 'laws.FnExactBracketOk', WHERE WHAT IT READS IS OF BULK AT MOST 1048576: true; the input reads as it did. -/
def fnExactBracketOkUptoRow : OpenClaim := { program := "ytolmelpdhdhcgaa", sum := "5028ae8ec4c5c9dfc10087646e622ffd37add82b9d094255b867bf67e3f0bc99", func := "loop.example/g03205/laws.FnExactBracketOk", spec := "fnExactBracketOk", unfollowed := true, recurses := true, apart := false, narrowed := true }
def FnExactBracketOkUptoSaid : Prop := fnExactBracketOkUptoRow.holds Try.pinned (OpenSpec.upto fnExactBracketOkSpec)

/-- 'laws.FnExactNextRound', WHERE WHAT IT READS IS OF BULK AT MOST 1048576: true; the input reads as it did. -/
def fnExactNextRoundUptoRow : OpenClaim := { program := "ytolmelpdhdhcgaa", sum := "5028ae8ec4c5c9dfc10087646e622ffd37add82b9d094255b867bf67e3f0bc99", func := "loop.example/g03205/laws.FnExactNextRound", spec := "fnExactNextRound", unfollowed := true, recurses := true, apart := false, narrowed := true }
def FnExactNextRoundUptoSaid : Prop := fnExactNextRoundUptoRow.holds Try.pinned (OpenSpec.upto fnExactNextRoundSpec)

/-- 'laws.FnExactWinnerOf', WHERE WHAT IT READS IS OF BULK AT MOST 1048576: true; the input reads as it did. -/
def fnExactWinnerOfUptoRow : OpenClaim := { program := "ytolmelpdhdhcgaa", sum := "5028ae8ec4c5c9dfc10087646e622ffd37add82b9d094255b867bf67e3f0bc99", func := "loop.example/g03205/laws.FnExactWinnerOf", spec := "fnExactWinnerOf", unfollowed := true, recurses := true, apart := false, narrowed := true }
def FnExactWinnerOfUptoSaid : Prop := fnExactWinnerOfUptoRow.holds Try.pinned (OpenSpec.upto fnExactWinnerOfSpec)

/-- 'laws.FnExactBeatenBy', WHERE WHAT IT READS IS OF BULK AT MOST 1048576: true; the input reads as it did. -/
def fnExactBeatenByUptoRow : OpenClaim := { program := "ytolmelpdhdhcgaa", sum := "5028ae8ec4c5c9dfc10087646e622ffd37add82b9d094255b867bf67e3f0bc99", func := "loop.example/g03205/laws.FnExactBeatenBy", spec := "fnExactBeatenBy", unfollowed := true, recurses := true, apart := false, narrowed := true }
def FnExactBeatenByUptoSaid : Prop := fnExactBeatenByUptoRow.holds Try.pinned (OpenSpec.upto fnExactBeatenBySpec)

/-- 'laws.FnExactMeetingRound', WHERE WHAT IT READS IS OF BULK AT MOST 1048576: true; the input reads as it did. -/
def fnExactMeetingRoundUptoRow : OpenClaim := { program := "ytolmelpdhdhcgaa", sum := "5028ae8ec4c5c9dfc10087646e622ffd37add82b9d094255b867bf67e3f0bc99", func := "loop.example/g03205/laws.FnExactMeetingRound", spec := "fnExactMeetingRound", unfollowed := true, recurses := true, apart := false, narrowed := true }
def FnExactMeetingRoundUptoSaid : Prop := fnExactMeetingRoundUptoRow.holds Try.pinned (OpenSpec.upto fnExactMeetingRoundSpec)

/-- 'laws.FnExactIsMonotone', WHERE WHAT IT READS IS OF BULK AT MOST 1048576: true; the input reads as it did. -/
def fnExactIsMonotoneUptoRow : OpenClaim := { program := "ytolmelpdhdhcgaa", sum := "5028ae8ec4c5c9dfc10087646e622ffd37add82b9d094255b867bf67e3f0bc99", func := "loop.example/g03205/laws.FnExactIsMonotone", spec := "fnExactIsMonotone", unfollowed := true, recurses := true, apart := false, narrowed := true }
def FnExactIsMonotoneUptoSaid : Prop := fnExactIsMonotoneUptoRow.holds Try.pinned (OpenSpec.upto fnExactIsMonotoneSpec)

/-- 'laws.FnExactSameBracket', WHERE WHAT IT READS IS OF BULK AT MOST 1048576: true; the input reads as it did. -/
def fnExactSameBracketUptoRow : OpenClaim := { program := "ytolmelpdhdhcgaa", sum := "5028ae8ec4c5c9dfc10087646e622ffd37add82b9d094255b867bf67e3f0bc99", func := "loop.example/g03205/laws.FnExactSameBracket", spec := "fnExactSameBracket", unfollowed := true, recurses := true, apart := false, narrowed := true }
def FnExactSameBracketUptoSaid : Prop := fnExactSameBracketUptoRow.holds Try.pinned (OpenSpec.upto fnExactSameBracketSpec)

end Rows
end Go.Proofs.Ytolmelpdhdhcgaa
