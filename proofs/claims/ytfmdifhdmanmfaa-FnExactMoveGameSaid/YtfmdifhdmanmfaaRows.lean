/-
  No cell of these rows narrows 'for every input' (looked for: loops, veiled, ifaces, maps, wideKeys, modest, calm, conditions, laid).
  DERIVED. THE GIVEN ROWS OF THIS SEAT. 10 by the template 'for every input the law returns true; each argument reads behind the call as it read before'; 0 by the template 'total and deterministic' (their statements: YtfmdifhdmanmfaaTotals.lean).
  GIVEN WITH THE SEED: the statements are not yours to turn. If you find one false, say at which input.
  Laid BY PROGRAM, IN A SANDBOX (cutbox-rows.mjs): the forced cells as the released guide's own fill.sh prints them over the translation 5eaf384aa78d1289… (all of the seat's roots in one cut). By AI agents, Wed Nov 11 2026. No macro, syntax, notation, axiom, sorry.
-/
import Derived.Test.YtfmdifhdmanmfaaChecked
import GoSem.Claim
import GoSem.ClaimJoined
import GoSem.ClaimMapViews
import Derived.JoinedTies
import Derived.KernelRfl
namespace Go.Proofs.Ytfmdifhdmanmfaa
/- THE CELL 'sum', in the pinned program and in every row, IS THE sha256 OF THE DUMP (.gsa) THAT YtfmdifhdmanmfaaProg.lean LOADS. Nothing in Lean hashes anything: it is a label: what it is worth is what the hold of that sum in a sandbox is worth. -/
noncomputable def Try.pinned : Pinned := { name := "ytfmdifhdmanmfaa", sum := "5eaf384aa78d12898d50884a4a12811ed6b369fac9f2482ef413558143cd36a6", checked := Try.checked }
namespace Rows
def none {H : Type} : Left H := { results := [], args := [] }

/-- 'laws.FnExactGamesOk': WHATEVER THE INPUT: true; the input reads as it did. -/
def fnExactGamesOkSpec : ChangeSpec := { name := "fnExactGamesOk", fn := fun _ => fun
  | [d] => { results := [.lit (.bool true)], args := [d] }
  | _ => none }
def fnExactGamesOkRow : OpenClaim := { program := "ytfmdifhdmanmfaa", sum := "5eaf384aa78d12898d50884a4a12811ed6b369fac9f2482ef413558143cd36a6", func := "loop.example/g03205/laws.FnExactGamesOk", spec := "fnExactGamesOk", unfollowed := true, recurses := true, apart := false }
def FnExactGamesOkSaid : Prop := fnExactGamesOkRow.holds Try.pinned (OpenSpec.ofChange fnExactGamesOkSpec)

/-- ITS FALSE NEIGHBOUR: 'it returns false'. Refute it at one input. -/
def fnExactGamesOkWrong : ChangeSpec := { name := "fnExactGamesOk", fn := fun _ => fun
  | [d] => { results := [.lit (.bool false)], args := [d] }
  | _ => none }
def FnExactGamesOkWrongFalsely : Prop := fnExactGamesOkRow.holds Try.pinned (OpenSpec.ofChange fnExactGamesOkWrong)

/-- 'laws.FnExactBusiestTeam': WHATEVER THE INPUT: true; the input reads as it did. -/
def fnExactBusiestTeamSpec : ChangeSpec := { name := "fnExactBusiestTeam", fn := fun _ => fun
  | [d] => { results := [.lit (.bool true)], args := [d] }
  | _ => none }
def fnExactBusiestTeamRow : OpenClaim := { program := "ytfmdifhdmanmfaa", sum := "5eaf384aa78d12898d50884a4a12811ed6b369fac9f2482ef413558143cd36a6", func := "loop.example/g03205/laws.FnExactBusiestTeam", spec := "fnExactBusiestTeam", unfollowed := true, recurses := true, apart := false }
def FnExactBusiestTeamSaid : Prop := fnExactBusiestTeamRow.holds Try.pinned (OpenSpec.ofChange fnExactBusiestTeamSpec)

/-- ITS FALSE NEIGHBOUR: 'it returns false'. Refute it at one input. -/
def fnExactBusiestTeamWrong : ChangeSpec := { name := "fnExactBusiestTeam", fn := fun _ => fun
  | [d] => { results := [.lit (.bool false)], args := [d] }
  | _ => none }
def FnExactBusiestTeamWrongFalsely : Prop := fnExactBusiestTeamRow.holds Try.pinned (OpenSpec.ofChange fnExactBusiestTeamWrong)

/-- 'laws.FnExactFewestDays': WHATEVER THE INPUT: true; the input reads as it did. -/
def fnExactFewestDaysSpec : ChangeSpec := { name := "fnExactFewestDays", fn := fun _ => fun
  | [d] => { results := [.lit (.bool true)], args := [d] }
  | _ => none }
def fnExactFewestDaysRow : OpenClaim := { program := "ytfmdifhdmanmfaa", sum := "5eaf384aa78d12898d50884a4a12811ed6b369fac9f2482ef413558143cd36a6", func := "loop.example/g03205/laws.FnExactFewestDays", spec := "fnExactFewestDays", unfollowed := true, recurses := true, apart := false }
def FnExactFewestDaysSaid : Prop := fnExactFewestDaysRow.holds Try.pinned (OpenSpec.ofChange fnExactFewestDaysSpec)

/-- ITS FALSE NEIGHBOUR: 'it returns false'. Refute it at one input. -/
def fnExactFewestDaysWrong : ChangeSpec := { name := "fnExactFewestDays", fn := fun _ => fun
  | [d] => { results := [.lit (.bool false)], args := [d] }
  | _ => none }
def FnExactFewestDaysWrongFalsely : Prop := fnExactFewestDaysRow.holds Try.pinned (OpenSpec.ofChange fnExactFewestDaysWrong)

/-- 'laws.FnExactIsSchedule': WHATEVER THE INPUT: true; the input reads as it did. -/
def fnExactIsScheduleSpec : ChangeSpec := { name := "fnExactIsSchedule", fn := fun _ => fun
  | [d1, d2] => { results := [.lit (.bool true)], args := [d1, d2] }
  | _ => none }
def fnExactIsScheduleRow : OpenClaim := { program := "ytfmdifhdmanmfaa", sum := "5eaf384aa78d12898d50884a4a12811ed6b369fac9f2482ef413558143cd36a6", func := "loop.example/g03205/laws.FnExactIsSchedule", spec := "fnExactIsSchedule", unfollowed := true, recurses := true, apart := false }
def FnExactIsScheduleSaid : Prop := fnExactIsScheduleRow.holds Try.pinned (OpenSpec.ofChange fnExactIsScheduleSpec)

/-- ITS FALSE NEIGHBOUR: 'it returns false'. Refute it at one input. -/
def fnExactIsScheduleWrong : ChangeSpec := { name := "fnExactIsSchedule", fn := fun _ => fun
  | [d1, d2] => { results := [.lit (.bool false)], args := [d1, d2] }
  | _ => none }
def FnExactIsScheduleWrongFalsely : Prop := fnExactIsScheduleRow.holds Try.pinned (OpenSpec.ofChange fnExactIsScheduleWrong)

/-- 'laws.FnExactCourtsNeeded': WHATEVER THE INPUT: true; the input reads as it did. -/
def fnExactCourtsNeededSpec : ChangeSpec := { name := "fnExactCourtsNeeded", fn := fun _ => fun
  | [d1, d2] => { results := [.lit (.bool true)], args := [d1, d2] }
  | _ => none }
def fnExactCourtsNeededRow : OpenClaim := { program := "ytfmdifhdmanmfaa", sum := "5eaf384aa78d12898d50884a4a12811ed6b369fac9f2482ef413558143cd36a6", func := "loop.example/g03205/laws.FnExactCourtsNeeded", spec := "fnExactCourtsNeeded", unfollowed := true, recurses := true, apart := false }
def FnExactCourtsNeededSaid : Prop := fnExactCourtsNeededRow.holds Try.pinned (OpenSpec.ofChange fnExactCourtsNeededSpec)

/-- ITS FALSE NEIGHBOUR: 'it returns false'. Refute it at one input. -/
def fnExactCourtsNeededWrong : ChangeSpec := { name := "fnExactCourtsNeeded", fn := fun _ => fun
  | [d1, d2] => { results := [.lit (.bool false)], args := [d1, d2] }
  | _ => none }
def FnExactCourtsNeededWrongFalsely : Prop := fnExactCourtsNeededRow.holds Try.pinned (OpenSpec.ofChange fnExactCourtsNeededWrong)

/-- 'laws.FnExactMoveGame': WHATEVER THE INPUT: true; the input reads as it did. -/
def fnExactMoveGameSpec : ChangeSpec := { name := "fnExactMoveGame", fn := fun _ => fun
  | [d1, d2, d3, d4] => { results := [.lit (.bool true)], args := [d1, d2, d3, d4] }
  | _ => none }
def fnExactMoveGameRow : OpenClaim := { program := "ytfmdifhdmanmfaa", sum := "5eaf384aa78d12898d50884a4a12811ed6b369fac9f2482ef413558143cd36a6", func := "loop.example/g03205/laws.FnExactMoveGame", spec := "fnExactMoveGame", unfollowed := true, recurses := true, apart := false }
def FnExactMoveGameSaid : Prop := fnExactMoveGameRow.holds Try.pinned (OpenSpec.ofChange fnExactMoveGameSpec)

/-- ITS FALSE NEIGHBOUR: 'it returns false'. Refute it at one input. -/
def fnExactMoveGameWrong : ChangeSpec := { name := "fnExactMoveGame", fn := fun _ => fun
  | [d1, d2, d3, d4] => { results := [.lit (.bool false)], args := [d1, d2, d3, d4] }
  | _ => none }
def FnExactMoveGameWrongFalsely : Prop := fnExactMoveGameRow.holds Try.pinned (OpenSpec.ofChange fnExactMoveGameWrong)

/-- 'laws.FnExactGamesOn': WHATEVER THE INPUT: true; the input reads as it did. -/
def fnExactGamesOnSpec : ChangeSpec := { name := "fnExactGamesOn", fn := fun _ => fun
  | [d1, d2, d3] => { results := [.lit (.bool true)], args := [d1, d2, d3] }
  | _ => none }
def fnExactGamesOnRow : OpenClaim := { program := "ytfmdifhdmanmfaa", sum := "5eaf384aa78d12898d50884a4a12811ed6b369fac9f2482ef413558143cd36a6", func := "loop.example/g03205/laws.FnExactGamesOn", spec := "fnExactGamesOn", unfollowed := true, recurses := true, apart := false }
def FnExactGamesOnSaid : Prop := fnExactGamesOnRow.holds Try.pinned (OpenSpec.ofChange fnExactGamesOnSpec)

/-- ITS FALSE NEIGHBOUR: 'it returns false'. Refute it at one input. -/
def fnExactGamesOnWrong : ChangeSpec := { name := "fnExactGamesOn", fn := fun _ => fun
  | [d1, d2, d3] => { results := [.lit (.bool false)], args := [d1, d2, d3] }
  | _ => none }
def FnExactGamesOnWrongFalsely : Prop := fnExactGamesOnRow.holds Try.pinned (OpenSpec.ofChange fnExactGamesOnWrong)

/-- 'laws.FnExactScheduleGames': WHATEVER THE INPUT: true; the input reads as it did. -/
def fnExactScheduleGamesSpec : ChangeSpec := { name := "fnExactScheduleGames", fn := fun _ => fun
  | [d] => { results := [.lit (.bool true)], args := [d] }
  | _ => none }
def fnExactScheduleGamesRow : OpenClaim := { program := "ytfmdifhdmanmfaa", sum := "5eaf384aa78d12898d50884a4a12811ed6b369fac9f2482ef413558143cd36a6", func := "loop.example/g03205/laws.FnExactScheduleGames", spec := "fnExactScheduleGames", unfollowed := true, recurses := true, apart := false }
def FnExactScheduleGamesSaid : Prop := fnExactScheduleGamesRow.holds Try.pinned (OpenSpec.ofChange fnExactScheduleGamesSpec)

/-- ITS FALSE NEIGHBOUR: 'it returns false'. Refute it at one input. -/
def fnExactScheduleGamesWrong : ChangeSpec := { name := "fnExactScheduleGames", fn := fun _ => fun
  | [d] => { results := [.lit (.bool false)], args := [d] }
  | _ => none }
def FnExactScheduleGamesWrongFalsely : Prop := fnExactScheduleGamesRow.holds Try.pinned (OpenSpec.ofChange fnExactScheduleGamesWrong)

/-- 'laws.FnExactIdleTeams': WHATEVER THE INPUT: true; the input reads as it did. -/
def fnExactIdleTeamsSpec : ChangeSpec := { name := "fnExactIdleTeams", fn := fun _ => fun
  | [d1, d2, d3] => { results := [.lit (.bool true)], args := [d1, d2, d3] }
  | _ => none }
def fnExactIdleTeamsRow : OpenClaim := { program := "ytfmdifhdmanmfaa", sum := "5eaf384aa78d12898d50884a4a12811ed6b369fac9f2482ef413558143cd36a6", func := "loop.example/g03205/laws.FnExactIdleTeams", spec := "fnExactIdleTeams", unfollowed := true, recurses := true, apart := false }
def FnExactIdleTeamsSaid : Prop := fnExactIdleTeamsRow.holds Try.pinned (OpenSpec.ofChange fnExactIdleTeamsSpec)

/-- ITS FALSE NEIGHBOUR: 'it returns false'. Refute it at one input. -/
def fnExactIdleTeamsWrong : ChangeSpec := { name := "fnExactIdleTeams", fn := fun _ => fun
  | [d1, d2, d3] => { results := [.lit (.bool false)], args := [d1, d2, d3] }
  | _ => none }
def FnExactIdleTeamsWrongFalsely : Prop := fnExactIdleTeamsRow.holds Try.pinned (OpenSpec.ofChange fnExactIdleTeamsWrong)

/-- 'laws.FnDays': WHATEVER THE INPUT: true; the input reads as it did. -/
def fnDaysSpec : ChangeSpec := { name := "fnDays", fn := fun _ => fun
  | [d] => { results := [.lit (.bool true)], args := [d] }
  | _ => none }
def fnDaysRow : OpenClaim := { program := "ytfmdifhdmanmfaa", sum := "5eaf384aa78d12898d50884a4a12811ed6b369fac9f2482ef413558143cd36a6", func := "loop.example/g03205/laws.FnDays", spec := "fnDays", unfollowed := true, recurses := true, apart := false }
def FnDaysSaid : Prop := fnDaysRow.holds Try.pinned (OpenSpec.ofChange fnDaysSpec)

/-- ITS FALSE NEIGHBOUR: 'it returns false'. Refute it at one input. -/
def fnDaysWrong : ChangeSpec := { name := "fnDays", fn := fun _ => fun
  | [d] => { results := [.lit (.bool false)], args := [d] }
  | _ => none }
def FnDaysWrongFalsely : Prop := fnDaysRow.holds Try.pinned (OpenSpec.ofChange fnDaysWrong)

/- THE SECOND FORM. 'bulk': how many values and letters a reading holds, each counted each time it is reached (what is shared counts as often as it is met; a slice's spare places count too). A statement '..UptoSaid' is the law's where the arguments, and the package variables that the reading takes, are together of bulk at most 1048576: NARROWER than '..Said'. Prove '..Said' where nothing that the law and all that it calls make is longer than what came in: it says more and counts as full. Else prove '..UptoSaid'. A law counts once. -/
mutual
def uptoBulk {H : Type} : DataW H → Nat
  | .lit (.string bytes) => bytes.length + 1
  | .lit _ => 1
  | .nil => 1
  | .ptr d => uptoBulk d + 1
  | .slice elems spare => uptoBulkAll elems + uptoBulkAll spare + 1
  | .agg parts => uptoBulkAll parts + 1
  | .iface _ d => uptoBulk d + 1
  | .map entries => uptoBulkEntries entries + 1
  | .held _ => 1
def uptoBulkAll {H : Type} : List (DataW H) → Nat
  | [] => 0
  | d :: r => uptoBulk d + uptoBulkAll r
def uptoBulkEntries {H : Type} : List (Lit × DataW H) → Nat
  | [] => 0
  | x :: r => uptoBulkEntry x + uptoBulkEntries r
def uptoBulkEntry {H : Type} : Lit × DataW H → Nat
  | (.string bytes, d) => bytes.length + uptoBulk d + 1
  | (_, d) => uptoBulk d + 1
 end
def uptoSmall : (H : Type) → List (DataW H) → Bool := fun _ ds => decide (uptoBulkAll ds ≤ 1048576)
def OpenSpec.upto (s : _root_.Go.ChangeSpec) : _root_.Go.OpenSpec := { _root_.Go.OpenSpec.ofChange s with cond := some uptoSmall }

/-- 'laws.FnExactGamesOk', WHERE WHAT IT READS IS OF BULK AT MOST 1048576: true; the input reads as it did. -/
def fnExactGamesOkUptoRow : OpenClaim := { program := "ytfmdifhdmanmfaa", sum := "5eaf384aa78d12898d50884a4a12811ed6b369fac9f2482ef413558143cd36a6", func := "loop.example/g03205/laws.FnExactGamesOk", spec := "fnExactGamesOk", unfollowed := true, recurses := true, apart := false, narrowed := true }
def FnExactGamesOkUptoSaid : Prop := fnExactGamesOkUptoRow.holds Try.pinned (OpenSpec.upto fnExactGamesOkSpec)

/-- 'laws.FnExactBusiestTeam', WHERE WHAT IT READS IS OF BULK AT MOST 1048576: true; the input reads as it did. -/
def fnExactBusiestTeamUptoRow : OpenClaim := { program := "ytfmdifhdmanmfaa", sum := "5eaf384aa78d12898d50884a4a12811ed6b369fac9f2482ef413558143cd36a6", func := "loop.example/g03205/laws.FnExactBusiestTeam", spec := "fnExactBusiestTeam", unfollowed := true, recurses := true, apart := false, narrowed := true }
def FnExactBusiestTeamUptoSaid : Prop := fnExactBusiestTeamUptoRow.holds Try.pinned (OpenSpec.upto fnExactBusiestTeamSpec)

/-- 'laws.FnExactFewestDays', WHERE WHAT IT READS IS OF BULK AT MOST 1048576: true; the input reads as it did. -/
def fnExactFewestDaysUptoRow : OpenClaim := { program := "ytfmdifhdmanmfaa", sum := "5eaf384aa78d12898d50884a4a12811ed6b369fac9f2482ef413558143cd36a6", func := "loop.example/g03205/laws.FnExactFewestDays", spec := "fnExactFewestDays", unfollowed := true, recurses := true, apart := false, narrowed := true }
def FnExactFewestDaysUptoSaid : Prop := fnExactFewestDaysUptoRow.holds Try.pinned (OpenSpec.upto fnExactFewestDaysSpec)

/-- 'laws.FnExactIsSchedule', WHERE WHAT IT READS IS OF BULK AT MOST 1048576: true; the input reads as it did. -/
def fnExactIsScheduleUptoRow : OpenClaim := { program := "ytfmdifhdmanmfaa", sum := "5eaf384aa78d12898d50884a4a12811ed6b369fac9f2482ef413558143cd36a6", func := "loop.example/g03205/laws.FnExactIsSchedule", spec := "fnExactIsSchedule", unfollowed := true, recurses := true, apart := false, narrowed := true }
def FnExactIsScheduleUptoSaid : Prop := fnExactIsScheduleUptoRow.holds Try.pinned (OpenSpec.upto fnExactIsScheduleSpec)

/-- 'laws.FnExactCourtsNeeded', WHERE WHAT IT READS IS OF BULK AT MOST 1048576: true; the input reads as it did. -/
def fnExactCourtsNeededUptoRow : OpenClaim := { program := "ytfmdifhdmanmfaa", sum := "5eaf384aa78d12898d50884a4a12811ed6b369fac9f2482ef413558143cd36a6", func := "loop.example/g03205/laws.FnExactCourtsNeeded", spec := "fnExactCourtsNeeded", unfollowed := true, recurses := true, apart := false, narrowed := true }
def FnExactCourtsNeededUptoSaid : Prop := fnExactCourtsNeededUptoRow.holds Try.pinned (OpenSpec.upto fnExactCourtsNeededSpec)

/-- 'laws.FnExactMoveGame', WHERE WHAT IT READS IS OF BULK AT MOST 1048576: true; the input reads as it did. -/
def fnExactMoveGameUptoRow : OpenClaim := { program := "ytfmdifhdmanmfaa", sum := "5eaf384aa78d12898d50884a4a12811ed6b369fac9f2482ef413558143cd36a6", func := "loop.example/g03205/laws.FnExactMoveGame", spec := "fnExactMoveGame", unfollowed := true, recurses := true, apart := false, narrowed := true }
def FnExactMoveGameUptoSaid : Prop := fnExactMoveGameUptoRow.holds Try.pinned (OpenSpec.upto fnExactMoveGameSpec)

/-- 'laws.FnExactGamesOn', WHERE WHAT IT READS IS OF BULK AT MOST 1048576: true; the input reads as it did. -/
def fnExactGamesOnUptoRow : OpenClaim := { program := "ytfmdifhdmanmfaa", sum := "5eaf384aa78d12898d50884a4a12811ed6b369fac9f2482ef413558143cd36a6", func := "loop.example/g03205/laws.FnExactGamesOn", spec := "fnExactGamesOn", unfollowed := true, recurses := true, apart := false, narrowed := true }
def FnExactGamesOnUptoSaid : Prop := fnExactGamesOnUptoRow.holds Try.pinned (OpenSpec.upto fnExactGamesOnSpec)

/-- 'laws.FnExactScheduleGames', WHERE WHAT IT READS IS OF BULK AT MOST 1048576: true; the input reads as it did. -/
def fnExactScheduleGamesUptoRow : OpenClaim := { program := "ytfmdifhdmanmfaa", sum := "5eaf384aa78d12898d50884a4a12811ed6b369fac9f2482ef413558143cd36a6", func := "loop.example/g03205/laws.FnExactScheduleGames", spec := "fnExactScheduleGames", unfollowed := true, recurses := true, apart := false, narrowed := true }
def FnExactScheduleGamesUptoSaid : Prop := fnExactScheduleGamesUptoRow.holds Try.pinned (OpenSpec.upto fnExactScheduleGamesSpec)

/-- 'laws.FnExactIdleTeams', WHERE WHAT IT READS IS OF BULK AT MOST 1048576: true; the input reads as it did. -/
def fnExactIdleTeamsUptoRow : OpenClaim := { program := "ytfmdifhdmanmfaa", sum := "5eaf384aa78d12898d50884a4a12811ed6b369fac9f2482ef413558143cd36a6", func := "loop.example/g03205/laws.FnExactIdleTeams", spec := "fnExactIdleTeams", unfollowed := true, recurses := true, apart := false, narrowed := true }
def FnExactIdleTeamsUptoSaid : Prop := fnExactIdleTeamsUptoRow.holds Try.pinned (OpenSpec.upto fnExactIdleTeamsSpec)

/-- 'laws.FnDays', WHERE WHAT IT READS IS OF BULK AT MOST 1048576: true; the input reads as it did. -/
def fnDaysUptoRow : OpenClaim := { program := "ytfmdifhdmanmfaa", sum := "5eaf384aa78d12898d50884a4a12811ed6b369fac9f2482ef413558143cd36a6", func := "loop.example/g03205/laws.FnDays", spec := "fnDays", unfollowed := true, recurses := true, apart := false, narrowed := true }
def FnDaysUptoSaid : Prop := fnDaysUptoRow.holds Try.pinned (OpenSpec.upto fnDaysSpec)

end Rows
end Go.Proofs.Ytfmdifhdmanmfaa
