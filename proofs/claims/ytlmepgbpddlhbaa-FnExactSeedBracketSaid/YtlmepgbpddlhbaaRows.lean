/-
  No cell of these rows narrows 'for every input' (looked for: loops, veiled, ifaces, maps, wideKeys, modest, calm, conditions, laid).
  DERIVED. THE GIVEN ROWS OF THIS SEAT. 7 by the template 'for every input the law returns true; each argument reads behind the call as it read before'; 0 by the template 'total and deterministic' (their statements: YtlmepgbpddlhbaaTotals.lean).
  GIVEN WITH THE SEED: the statements are not yours to turn. If you find one false, say at which input.
  Laid BY PROGRAM, IN A SANDBOX (cutbox-rows.mjs): the forced cells as the released guide's own fill.sh prints them over the translation bb3d1cce165bcfd7… (all of the seat's roots in one cut). By AI agents, Wed Nov 11 2026. No macro, syntax, notation, axiom, sorry.
-/
import Derived.Test.YtlmepgbpddlhbaaChecked
import GoSem.Claim
import GoSem.ClaimJoined
import GoSem.ClaimMapViews
import Derived.JoinedTies
import Derived.KernelRfl
namespace Go.Proofs.Ytlmepgbpddlhbaa
/- THE CELL 'sum', in the pinned program and in every row, IS THE sha256 OF THE DUMP (.gsa) THAT YtlmepgbpddlhbaaProg.lean LOADS. Nothing in Lean hashes anything: it is a label: what it is worth is what the hold of that sum in a sandbox is worth. -/
noncomputable def Try.pinned : Pinned := { name := "ytlmepgbpddlhbaa", sum := "bb3d1cce165bcfd7be5aa4521084e65eb9a5e2c901b6d8bb5d38b9043dd5f949", checked := Try.checked }
namespace Rows
def none {H : Type} : Left H := { results := [], args := [] }

/-- 'laws.FnExactRoundOfMeeting': WHATEVER THE INPUT: true; the input reads as it did. -/
def fnExactRoundOfMeetingSpec : ChangeSpec := { name := "fnExactRoundOfMeeting", fn := fun _ => fun
  | [d1, d2, d3] => { results := [.lit (.bool true)], args := [d1, d2, d3] }
  | _ => none }
def fnExactRoundOfMeetingRow : OpenClaim := { program := "ytlmepgbpddlhbaa", sum := "bb3d1cce165bcfd7be5aa4521084e65eb9a5e2c901b6d8bb5d38b9043dd5f949", func := "loop.example/g03205/laws.FnExactRoundOfMeeting", spec := "fnExactRoundOfMeeting", apart := false }
def FnExactRoundOfMeetingSaid : Prop := fnExactRoundOfMeetingRow.holds Try.pinned (OpenSpec.ofChange fnExactRoundOfMeetingSpec)

/-- ITS FALSE NEIGHBOUR: 'it returns false'. Refute it at one input. -/
def fnExactRoundOfMeetingWrong : ChangeSpec := { name := "fnExactRoundOfMeeting", fn := fun _ => fun
  | [d1, d2, d3] => { results := [.lit (.bool false)], args := [d1, d2, d3] }
  | _ => none }
def FnExactRoundOfMeetingWrongFalsely : Prop := fnExactRoundOfMeetingRow.holds Try.pinned (OpenSpec.ofChange fnExactRoundOfMeetingWrong)

/-- 'laws.FnExactSeedOrder': WHATEVER THE INPUT: true; the input reads as it did. -/
def fnExactSeedOrderSpec : ChangeSpec := { name := "fnExactSeedOrder", fn := fun _ => fun
  | [d] => { results := [.lit (.bool true)], args := [d] }
  | _ => none }
def fnExactSeedOrderRow : OpenClaim := { program := "ytlmepgbpddlhbaa", sum := "bb3d1cce165bcfd7be5aa4521084e65eb9a5e2c901b6d8bb5d38b9043dd5f949", func := "loop.example/g03205/laws.FnExactSeedOrder", spec := "fnExactSeedOrder", apart := false }
def FnExactSeedOrderSaid : Prop := fnExactSeedOrderRow.holds Try.pinned (OpenSpec.ofChange fnExactSeedOrderSpec)

/-- ITS FALSE NEIGHBOUR: 'it returns false'. Refute it at one input. -/
def fnExactSeedOrderWrong : ChangeSpec := { name := "fnExactSeedOrder", fn := fun _ => fun
  | [d] => { results := [.lit (.bool false)], args := [d] }
  | _ => none }
def FnExactSeedOrderWrongFalsely : Prop := fnExactSeedOrderRow.holds Try.pinned (OpenSpec.ofChange fnExactSeedOrderWrong)

/-- 'laws.FnExactSeedBracket': WHATEVER THE INPUT: true; the input reads as it did. -/
def fnExactSeedBracketSpec : ChangeSpec := { name := "fnExactSeedBracket", fn := fun _ => fun
  | [d1, d2] => { results := [.lit (.bool true)], args := [d1, d2] }
  | _ => none }
def fnExactSeedBracketRow : OpenClaim := { program := "ytlmepgbpddlhbaa", sum := "bb3d1cce165bcfd7be5aa4521084e65eb9a5e2c901b6d8bb5d38b9043dd5f949", func := "loop.example/g03205/laws.FnExactSeedBracket", spec := "fnExactSeedBracket", apart := false }
def FnExactSeedBracketSaid : Prop := fnExactSeedBracketRow.holds Try.pinned (OpenSpec.ofChange fnExactSeedBracketSpec)

/-- ITS FALSE NEIGHBOUR: 'it returns false'. Refute it at one input. -/
def fnExactSeedBracketWrong : ChangeSpec := { name := "fnExactSeedBracket", fn := fun _ => fun
  | [d1, d2] => { results := [.lit (.bool false)], args := [d1, d2] }
  | _ => none }
def FnExactSeedBracketWrongFalsely : Prop := fnExactSeedBracketRow.holds Try.pinned (OpenSpec.ofChange fnExactSeedBracketWrong)

/-- 'laws.FnExactLadderOk': WHATEVER THE INPUT: true; the input reads as it did. -/
def fnExactLadderOkSpec : ChangeSpec := { name := "fnExactLadderOk", fn := fun _ => fun
  | [d] => { results := [.lit (.bool true)], args := [d] }
  | _ => none }
def fnExactLadderOkRow : OpenClaim := { program := "ytlmepgbpddlhbaa", sum := "bb3d1cce165bcfd7be5aa4521084e65eb9a5e2c901b6d8bb5d38b9043dd5f949", func := "loop.example/g03205/laws.FnExactLadderOk", spec := "fnExactLadderOk", apart := false }
def FnExactLadderOkSaid : Prop := fnExactLadderOkRow.holds Try.pinned (OpenSpec.ofChange fnExactLadderOkSpec)

/-- ITS FALSE NEIGHBOUR: 'it returns false'. Refute it at one input. -/
def fnExactLadderOkWrong : ChangeSpec := { name := "fnExactLadderOk", fn := fun _ => fun
  | [d] => { results := [.lit (.bool false)], args := [d] }
  | _ => none }
def FnExactLadderOkWrongFalsely : Prop := fnExactLadderOkRow.holds Try.pinned (OpenSpec.ofChange fnExactLadderOkWrong)

/-- 'laws.FnExactPlaceOf': WHATEVER THE INPUT: true; the input reads as it did. -/
def fnExactPlaceOfSpec : ChangeSpec := { name := "fnExactPlaceOf", fn := fun _ => fun
  | [d1, d2] => { results := [.lit (.bool true)], args := [d1, d2] }
  | _ => none }
def fnExactPlaceOfRow : OpenClaim := { program := "ytlmepgbpddlhbaa", sum := "bb3d1cce165bcfd7be5aa4521084e65eb9a5e2c901b6d8bb5d38b9043dd5f949", func := "loop.example/g03205/laws.FnExactPlaceOf", spec := "fnExactPlaceOf", apart := false }
def FnExactPlaceOfSaid : Prop := fnExactPlaceOfRow.holds Try.pinned (OpenSpec.ofChange fnExactPlaceOfSpec)

/-- ITS FALSE NEIGHBOUR: 'it returns false'. Refute it at one input. -/
def fnExactPlaceOfWrong : ChangeSpec := { name := "fnExactPlaceOf", fn := fun _ => fun
  | [d1, d2] => { results := [.lit (.bool false)], args := [d1, d2] }
  | _ => none }
def FnExactPlaceOfWrongFalsely : Prop := fnExactPlaceOfRow.holds Try.pinned (OpenSpec.ofChange fnExactPlaceOfWrong)

/-- 'laws.FnExactMayChallenge': WHATEVER THE INPUT: true; the input reads as it did. -/
def fnExactMayChallengeSpec : ChangeSpec := { name := "fnExactMayChallenge", fn := fun _ => fun
  | [d1, d2, d3, d4] => { results := [.lit (.bool true)], args := [d1, d2, d3, d4] }
  | _ => none }
def fnExactMayChallengeRow : OpenClaim := { program := "ytlmepgbpddlhbaa", sum := "bb3d1cce165bcfd7be5aa4521084e65eb9a5e2c901b6d8bb5d38b9043dd5f949", func := "loop.example/g03205/laws.FnExactMayChallenge", spec := "fnExactMayChallenge", apart := false }
def FnExactMayChallengeSaid : Prop := fnExactMayChallengeRow.holds Try.pinned (OpenSpec.ofChange fnExactMayChallengeSpec)

/-- ITS FALSE NEIGHBOUR: 'it returns false'. Refute it at one input. -/
def fnExactMayChallengeWrong : ChangeSpec := { name := "fnExactMayChallenge", fn := fun _ => fun
  | [d1, d2, d3, d4] => { results := [.lit (.bool false)], args := [d1, d2, d3, d4] }
  | _ => none }
def FnExactMayChallengeWrongFalsely : Prop := fnExactMayChallengeRow.holds Try.pinned (OpenSpec.ofChange fnExactMayChallengeWrong)

/-- 'laws.FnExactLadderDistance': WHATEVER THE INPUT: true; the input reads as it did. -/
def fnExactLadderDistanceSpec : ChangeSpec := { name := "fnExactLadderDistance", fn := fun _ => fun
  | [d1, d2] => { results := [.lit (.bool true)], args := [d1, d2] }
  | _ => none }
def fnExactLadderDistanceRow : OpenClaim := { program := "ytlmepgbpddlhbaa", sum := "bb3d1cce165bcfd7be5aa4521084e65eb9a5e2c901b6d8bb5d38b9043dd5f949", func := "loop.example/g03205/laws.FnExactLadderDistance", spec := "fnExactLadderDistance", apart := false }
def FnExactLadderDistanceSaid : Prop := fnExactLadderDistanceRow.holds Try.pinned (OpenSpec.ofChange fnExactLadderDistanceSpec)

/-- ITS FALSE NEIGHBOUR: 'it returns false'. Refute it at one input. -/
def fnExactLadderDistanceWrong : ChangeSpec := { name := "fnExactLadderDistance", fn := fun _ => fun
  | [d1, d2] => { results := [.lit (.bool false)], args := [d1, d2] }
  | _ => none }
def FnExactLadderDistanceWrongFalsely : Prop := fnExactLadderDistanceRow.holds Try.pinned (OpenSpec.ofChange fnExactLadderDistanceWrong)

/- THE SECOND FORM. 'bulk': how many values and letters a reading holds, each counted each time it is reached (what is shared counts as often as it is met; a slice's spare places count too). A statement '..UptoSaid' is the law's where the arguments, and the package variables that the reading takes, are together of bulk at most 1048576: NARROWER than '..Said'. Prove '..Said' where nothing that the law and all that it calls make is longer than what came in: it says more and counts as full. Else prove '..UptoSaid'. A law counts once. -/
mutual
def uptoBulk {H : Type} : DataW H → Nat
  | .lit (.string bytes) => bytes.length + 1
  | .lit _ => 1
  | .nil => 1
  | .ptr d => uptoBulk d + 1
  | .slice elems spare => uptoBulkAll elems + uptoBulkAll spare + 1
  | .agg parts => uptoBulkAll parts + 1
  | .iface _ d => uptoBulk d + 1
  | .map entries => uptoBulkEntries entries + 1
  | .held _ => 1
def uptoBulkAll {H : Type} : List (DataW H) → Nat
  | [] => 0
  | d :: r => uptoBulk d + uptoBulkAll r
def uptoBulkEntries {H : Type} : List (Lit × DataW H) → Nat
  | [] => 0
  | x :: r => uptoBulkEntry x + uptoBulkEntries r
def uptoBulkEntry {H : Type} : Lit × DataW H → Nat
  | (.string bytes, d) => bytes.length + uptoBulk d + 1
  | (_, d) => uptoBulk d + 1
 end
def uptoSmall : (H : Type) → List (DataW H) → Bool := fun _ ds => decide (uptoBulkAll ds ≤ 1048576)
def OpenSpec.upto (s : _root_.Go.ChangeSpec) : _root_.Go.OpenSpec := { _root_.Go.OpenSpec.ofChange s with cond := some uptoSmall }

/-- 'laws.FnExactRoundOfMeeting', WHERE WHAT IT READS IS OF BULK AT MOST 1048576: true; the input reads as it did. -/
def fnExactRoundOfMeetingUptoRow : OpenClaim := { program := "ytlmepgbpddlhbaa", sum := "bb3d1cce165bcfd7be5aa4521084e65eb9a5e2c901b6d8bb5d38b9043dd5f949", func := "loop.example/g03205/laws.FnExactRoundOfMeeting", spec := "fnExactRoundOfMeeting", apart := false, narrowed := true }
def FnExactRoundOfMeetingUptoSaid : Prop := fnExactRoundOfMeetingUptoRow.holds Try.pinned (OpenSpec.upto fnExactRoundOfMeetingSpec)

/-- 'laws.FnExactSeedOrder', WHERE WHAT IT READS IS OF BULK AT MOST 1048576: true; the input reads as it did. -/
def fnExactSeedOrderUptoRow : OpenClaim := { program := "ytlmepgbpddlhbaa", sum := "bb3d1cce165bcfd7be5aa4521084e65eb9a5e2c901b6d8bb5d38b9043dd5f949", func := "loop.example/g03205/laws.FnExactSeedOrder", spec := "fnExactSeedOrder", apart := false, narrowed := true }
def FnExactSeedOrderUptoSaid : Prop := fnExactSeedOrderUptoRow.holds Try.pinned (OpenSpec.upto fnExactSeedOrderSpec)

/-- 'laws.FnExactSeedBracket', WHERE WHAT IT READS IS OF BULK AT MOST 1048576: true; the input reads as it did. -/
def fnExactSeedBracketUptoRow : OpenClaim := { program := "ytlmepgbpddlhbaa", sum := "bb3d1cce165bcfd7be5aa4521084e65eb9a5e2c901b6d8bb5d38b9043dd5f949", func := "loop.example/g03205/laws.FnExactSeedBracket", spec := "fnExactSeedBracket", apart := false, narrowed := true }
def FnExactSeedBracketUptoSaid : Prop := fnExactSeedBracketUptoRow.holds Try.pinned (OpenSpec.upto fnExactSeedBracketSpec)

/-- 'laws.FnExactLadderOk', WHERE WHAT IT READS IS OF BULK AT MOST 1048576: true; the input reads as it did. -/
def fnExactLadderOkUptoRow : OpenClaim := { program := "ytlmepgbpddlhbaa", sum := "bb3d1cce165bcfd7be5aa4521084e65eb9a5e2c901b6d8bb5d38b9043dd5f949", func := "loop.example/g03205/laws.FnExactLadderOk", spec := "fnExactLadderOk", apart := false, narrowed := true }
def FnExactLadderOkUptoSaid : Prop := fnExactLadderOkUptoRow.holds Try.pinned (OpenSpec.upto fnExactLadderOkSpec)

/-- 'laws.FnExactPlaceOf', WHERE WHAT IT READS IS OF BULK AT MOST 1048576: true; the input reads as it did. -/
def fnExactPlaceOfUptoRow : OpenClaim := { program := "ytlmepgbpddlhbaa", sum := "bb3d1cce165bcfd7be5aa4521084e65eb9a5e2c901b6d8bb5d38b9043dd5f949", func := "loop.example/g03205/laws.FnExactPlaceOf", spec := "fnExactPlaceOf", apart := false, narrowed := true }
def FnExactPlaceOfUptoSaid : Prop := fnExactPlaceOfUptoRow.holds Try.pinned (OpenSpec.upto fnExactPlaceOfSpec)

/-- 'laws.FnExactMayChallenge', WHERE WHAT IT READS IS OF BULK AT MOST 1048576: true; the input reads as it did. -/
def fnExactMayChallengeUptoRow : OpenClaim := { program := "ytlmepgbpddlhbaa", sum := "bb3d1cce165bcfd7be5aa4521084e65eb9a5e2c901b6d8bb5d38b9043dd5f949", func := "loop.example/g03205/laws.FnExactMayChallenge", spec := "fnExactMayChallenge", apart := false, narrowed := true }
def FnExactMayChallengeUptoSaid : Prop := fnExactMayChallengeUptoRow.holds Try.pinned (OpenSpec.upto fnExactMayChallengeSpec)

/-- 'laws.FnExactLadderDistance', WHERE WHAT IT READS IS OF BULK AT MOST 1048576: true; the input reads as it did. -/
def fnExactLadderDistanceUptoRow : OpenClaim := { program := "ytlmepgbpddlhbaa", sum := "bb3d1cce165bcfd7be5aa4521084e65eb9a5e2c901b6d8bb5d38b9043dd5f949", func := "loop.example/g03205/laws.FnExactLadderDistance", spec := "fnExactLadderDistance", apart := false, narrowed := true }
def FnExactLadderDistanceUptoSaid : Prop := fnExactLadderDistanceUptoRow.holds Try.pinned (OpenSpec.upto fnExactLadderDistanceSpec)

end Rows
end Go.Proofs.Ytlmepgbpddlhbaa
