/-
  No cell of these rows narrows 'for every input' (looked for: loops, veiled, ifaces, maps, wideKeys, modest, calm, conditions, laid).
  DERIVED. THE GIVEN ROWS OF THIS SEAT. 10 by the template 'for every input the law returns true; each argument reads behind the call as it read before'; 0 by the template 'total and deterministic' (their statements: YtkfijamaakjifaaTotals.lean).
  GIVEN WITH THE SEED: the statements are not yours to turn. If you find one false, say at which input.
  Laid BY PROGRAM, IN A SANDBOX (cutbox-rows.mjs): the forced cells as the released guide's own fill.sh prints them over the translation aa418371e82a9cba… (all of the seat's roots in one cut). By AI agents, Wed Nov 11 2026. No macro, syntax, notation, axiom, sorry.
-/
import Derived.Test.YtkfijamaakjifaaChecked
import GoSem.Claim
import GoSem.ClaimJoined
import GoSem.ClaimMapViews
import Derived.JoinedTies
import Derived.KernelRfl
namespace Go.Proofs.Ytkfijamaakjifaa
/- THE CELL 'sum', in the pinned program and in every row, IS THE sha256 OF THE DUMP (.gsa) THAT YtkfijamaakjifaaProg.lean LOADS. Nothing in Lean hashes anything: it is a label: what it is worth is what the hold of that sum in a sandbox is worth. -/
noncomputable def Try.pinned : Pinned := { name := "ytkfijamaakjifaa", sum := "aa418371e82a9cbac603198d5d007876f5a3b3101174700b79f240f06752f730", checked := Try.checked }
namespace Rows
def none {H : Type} : Left H := { results := [], args := [] }

/-- 'laws.FnExactSingleGames': WHATEVER THE INPUT: true; the input reads as it did. -/
def fnExactSingleGamesSpec : ChangeSpec := { name := "fnExactSingleGames", fn := fun _ => fun
  | [d] => { results := [.lit (.bool true)], args := [d] }
  | _ => none }
def fnExactSingleGamesRow : OpenClaim := { program := "ytkfijamaakjifaa", sum := "aa418371e82a9cbac603198d5d007876f5a3b3101174700b79f240f06752f730", func := "loop.example/g03205/laws.FnExactSingleGames", spec := "fnExactSingleGames", unfollowed := true, recurses := true, apart := false }
def FnExactSingleGamesSaid : Prop := fnExactSingleGamesRow.holds Try.pinned (OpenSpec.ofChange fnExactSingleGamesSpec)

/-- ITS FALSE NEIGHBOUR: 'it returns false'. Refute it at one input. -/
def fnExactSingleGamesWrong : ChangeSpec := { name := "fnExactSingleGames", fn := fun _ => fun
  | [d] => { results := [.lit (.bool false)], args := [d] }
  | _ => none }
def FnExactSingleGamesWrongFalsely : Prop := fnExactSingleGamesRow.holds Try.pinned (OpenSpec.ofChange fnExactSingleGamesWrong)

/-- 'laws.FnExactDoubleWinner': WHATEVER THE INPUT: true; the input reads as it did. -/
def fnExactDoubleWinnerSpec : ChangeSpec := { name := "fnExactDoubleWinner", fn := fun _ => fun
  | [d] => { results := [.lit (.bool true)], args := [d] }
  | _ => none }
def fnExactDoubleWinnerRow : OpenClaim := { program := "ytkfijamaakjifaa", sum := "aa418371e82a9cbac603198d5d007876f5a3b3101174700b79f240f06752f730", func := "loop.example/g03205/laws.FnExactDoubleWinner", spec := "fnExactDoubleWinner", unfollowed := true, recurses := true, apart := false }
def FnExactDoubleWinnerSaid : Prop := fnExactDoubleWinnerRow.holds Try.pinned (OpenSpec.ofChange fnExactDoubleWinnerSpec)

/-- ITS FALSE NEIGHBOUR: 'it returns false'. Refute it at one input. -/
def fnExactDoubleWinnerWrong : ChangeSpec := { name := "fnExactDoubleWinner", fn := fun _ => fun
  | [d] => { results := [.lit (.bool false)], args := [d] }
  | _ => none }
def FnExactDoubleWinnerWrongFalsely : Prop := fnExactDoubleWinnerRow.holds Try.pinned (OpenSpec.ofChange fnExactDoubleWinnerWrong)

/-- 'laws.FnExactFirstOut': WHATEVER THE INPUT: true; the input reads as it did. -/
def fnExactFirstOutSpec : ChangeSpec := { name := "fnExactFirstOut", fn := fun _ => fun
  | [d] => { results := [.lit (.bool true)], args := [d] }
  | _ => none }
def fnExactFirstOutRow : OpenClaim := { program := "ytkfijamaakjifaa", sum := "aa418371e82a9cbac603198d5d007876f5a3b3101174700b79f240f06752f730", func := "loop.example/g03205/laws.FnExactFirstOut", spec := "fnExactFirstOut", unfollowed := true, recurses := true, apart := false }
def FnExactFirstOutSaid : Prop := fnExactFirstOutRow.holds Try.pinned (OpenSpec.ofChange fnExactFirstOutSpec)

/-- ITS FALSE NEIGHBOUR: 'it returns false'. Refute it at one input. -/
def fnExactFirstOutWrong : ChangeSpec := { name := "fnExactFirstOut", fn := fun _ => fun
  | [d] => { results := [.lit (.bool false)], args := [d] }
  | _ => none }
def FnExactFirstOutWrongFalsely : Prop := fnExactFirstOutRow.holds Try.pinned (OpenSpec.ofChange fnExactFirstOutWrong)

/-- 'laws.FnExactDefeatsOf': WHATEVER THE INPUT: true; the input reads as it did. -/
def fnExactDefeatsOfSpec : ChangeSpec := { name := "fnExactDefeatsOf", fn := fun _ => fun
  | [d1, d2] => { results := [.lit (.bool true)], args := [d1, d2] }
  | _ => none }
def fnExactDefeatsOfRow : OpenClaim := { program := "ytkfijamaakjifaa", sum := "aa418371e82a9cbac603198d5d007876f5a3b3101174700b79f240f06752f730", func := "loop.example/g03205/laws.FnExactDefeatsOf", spec := "fnExactDefeatsOf", unfollowed := true, recurses := true, apart := false }
def FnExactDefeatsOfSaid : Prop := fnExactDefeatsOfRow.holds Try.pinned (OpenSpec.ofChange fnExactDefeatsOfSpec)

/-- ITS FALSE NEIGHBOUR: 'it returns false'. Refute it at one input. -/
def fnExactDefeatsOfWrong : ChangeSpec := { name := "fnExactDefeatsOf", fn := fun _ => fun
  | [d1, d2] => { results := [.lit (.bool false)], args := [d1, d2] }
  | _ => none }
def FnExactDefeatsOfWrongFalsely : Prop := fnExactDefeatsOfRow.holds Try.pinned (OpenSpec.ofChange fnExactDefeatsOfWrong)

/-- 'laws.FnExactDoublePlaces': WHATEVER THE INPUT: true; the input reads as it did. -/
def fnExactDoublePlacesSpec : ChangeSpec := { name := "fnExactDoublePlaces", fn := fun _ => fun
  | [d] => { results := [.lit (.bool true)], args := [d] }
  | _ => none }
def fnExactDoublePlacesRow : OpenClaim := { program := "ytkfijamaakjifaa", sum := "aa418371e82a9cbac603198d5d007876f5a3b3101174700b79f240f06752f730", func := "loop.example/g03205/laws.FnExactDoublePlaces", spec := "fnExactDoublePlaces", unfollowed := true, recurses := true, apart := false }
def FnExactDoublePlacesSaid : Prop := fnExactDoublePlacesRow.holds Try.pinned (OpenSpec.ofChange fnExactDoublePlacesSpec)

/-- ITS FALSE NEIGHBOUR: 'it returns false'. Refute it at one input. -/
def fnExactDoublePlacesWrong : ChangeSpec := { name := "fnExactDoublePlaces", fn := fun _ => fun
  | [d] => { results := [.lit (.bool false)], args := [d] }
  | _ => none }
def FnExactDoublePlacesWrongFalsely : Prop := fnExactDoublePlacesRow.holds Try.pinned (OpenSpec.ofChange fnExactDoublePlacesWrong)

/-- 'laws.FnExactGamesOf': WHATEVER THE INPUT: true; the input reads as it did. -/
def fnExactGamesOfSpec : ChangeSpec := { name := "fnExactGamesOf", fn := fun _ => fun
  | [d1, d2] => { results := [.lit (.bool true)], args := [d1, d2] }
  | _ => none }
def fnExactGamesOfRow : OpenClaim := { program := "ytkfijamaakjifaa", sum := "aa418371e82a9cbac603198d5d007876f5a3b3101174700b79f240f06752f730", func := "loop.example/g03205/laws.FnExactGamesOf", spec := "fnExactGamesOf", unfollowed := true, recurses := true, apart := false }
def FnExactGamesOfSaid : Prop := fnExactGamesOfRow.holds Try.pinned (OpenSpec.ofChange fnExactGamesOfSpec)

/-- ITS FALSE NEIGHBOUR: 'it returns false'. Refute it at one input. -/
def fnExactGamesOfWrong : ChangeSpec := { name := "fnExactGamesOf", fn := fun _ => fun
  | [d1, d2] => { results := [.lit (.bool false)], args := [d1, d2] }
  | _ => none }
def FnExactGamesOfWrongFalsely : Prop := fnExactGamesOfRow.holds Try.pinned (OpenSpec.ofChange fnExactGamesOfWrong)

/-- 'laws.FnExactDoubleGames': WHATEVER THE INPUT: true; the input reads as it did. -/
def fnExactDoubleGamesSpec : ChangeSpec := { name := "fnExactDoubleGames", fn := fun _ => fun
  | [d] => { results := [.lit (.bool true)], args := [d] }
  | _ => none }
def fnExactDoubleGamesRow : OpenClaim := { program := "ytkfijamaakjifaa", sum := "aa418371e82a9cbac603198d5d007876f5a3b3101174700b79f240f06752f730", func := "loop.example/g03205/laws.FnExactDoubleGames", spec := "fnExactDoubleGames", unfollowed := true, recurses := true, apart := false }
def FnExactDoubleGamesSaid : Prop := fnExactDoubleGamesRow.holds Try.pinned (OpenSpec.ofChange fnExactDoubleGamesSpec)

/-- ITS FALSE NEIGHBOUR: 'it returns false'. Refute it at one input. -/
def fnExactDoubleGamesWrong : ChangeSpec := { name := "fnExactDoubleGames", fn := fun _ => fun
  | [d] => { results := [.lit (.bool false)], args := [d] }
  | _ => none }
def FnExactDoubleGamesWrongFalsely : Prop := fnExactDoubleGamesRow.holds Try.pinned (OpenSpec.ofChange fnExactDoubleGamesWrong)

/-- 'laws.FnExactDoubleOrder': WHATEVER THE INPUT: true; the input reads as it did. -/
def fnExactDoubleOrderSpec : ChangeSpec := { name := "fnExactDoubleOrder", fn := fun _ => fun
  | [d1, d2] => { results := [.lit (.bool true)], args := [d1, d2] }
  | _ => none }
def fnExactDoubleOrderRow : OpenClaim := { program := "ytkfijamaakjifaa", sum := "aa418371e82a9cbac603198d5d007876f5a3b3101174700b79f240f06752f730", func := "loop.example/g03205/laws.FnExactDoubleOrder", spec := "fnExactDoubleOrder", unfollowed := true, recurses := true, apart := false }
def FnExactDoubleOrderSaid : Prop := fnExactDoubleOrderRow.holds Try.pinned (OpenSpec.ofChange fnExactDoubleOrderSpec)

/-- ITS FALSE NEIGHBOUR: 'it returns false'. Refute it at one input. -/
def fnExactDoubleOrderWrong : ChangeSpec := { name := "fnExactDoubleOrder", fn := fun _ => fun
  | [d1, d2] => { results := [.lit (.bool false)], args := [d1, d2] }
  | _ => none }
def FnExactDoubleOrderWrongFalsely : Prop := fnExactDoubleOrderRow.holds Try.pinned (OpenSpec.ofChange fnExactDoubleOrderWrong)

/-- 'laws.FnExactWasReset': WHATEVER THE INPUT: true; the input reads as it did. -/
def fnExactWasResetSpec : ChangeSpec := { name := "fnExactWasReset", fn := fun _ => fun
  | [d] => { results := [.lit (.bool true)], args := [d] }
  | _ => none }
def fnExactWasResetRow : OpenClaim := { program := "ytkfijamaakjifaa", sum := "aa418371e82a9cbac603198d5d007876f5a3b3101174700b79f240f06752f730", func := "loop.example/g03205/laws.FnExactWasReset", spec := "fnExactWasReset", unfollowed := true, recurses := true, apart := false }
def FnExactWasResetSaid : Prop := fnExactWasResetRow.holds Try.pinned (OpenSpec.ofChange fnExactWasResetSpec)

/-- ITS FALSE NEIGHBOUR: 'it returns false'. Refute it at one input. -/
def fnExactWasResetWrong : ChangeSpec := { name := "fnExactWasReset", fn := fun _ => fun
  | [d] => { results := [.lit (.bool false)], args := [d] }
  | _ => none }
def FnExactWasResetWrongFalsely : Prop := fnExactWasResetRow.holds Try.pinned (OpenSpec.ofChange fnExactWasResetWrong)

/-- 'laws.FnDouble': WHATEVER THE INPUT: true; the input reads as it did. -/
def fnDoubleSpec : ChangeSpec := { name := "fnDouble", fn := fun _ => fun
  | [d] => { results := [.lit (.bool true)], args := [d] }
  | _ => none }
def fnDoubleRow : OpenClaim := { program := "ytkfijamaakjifaa", sum := "aa418371e82a9cbac603198d5d007876f5a3b3101174700b79f240f06752f730", func := "loop.example/g03205/laws.FnDouble", spec := "fnDouble", unfollowed := true, recurses := true, apart := false }
def FnDoubleSaid : Prop := fnDoubleRow.holds Try.pinned (OpenSpec.ofChange fnDoubleSpec)

/-- ITS FALSE NEIGHBOUR: 'it returns false'. Refute it at one input. -/
def fnDoubleWrong : ChangeSpec := { name := "fnDouble", fn := fun _ => fun
  | [d] => { results := [.lit (.bool false)], args := [d] }
  | _ => none }
def FnDoubleWrongFalsely : Prop := fnDoubleRow.holds Try.pinned (OpenSpec.ofChange fnDoubleWrong)

/- THE SECOND FORM. 'bulk': how many values and letters a reading holds, each counted each time it is reached (what is shared counts as often as it is met; a slice's spare places count too). A statement '..UptoSaid' is the law's where the arguments, and the package variables that the reading takes, are together of bulk at most 1048576: NARROWER than '..Said'. Prove '..Said' where nothing that the law and all that it calls make is longer than what came in: it says more and counts as full. Else prove '..UptoSaid'. A law counts once. -/
mutual
def uptoBulk {H : Type} : DataW H → Nat
  | .lit (.string bytes) => bytes.length + 1
  | .lit _ => 1
  | .nil => 1
  | .ptr d => uptoBulk d + 1
  | .slice elems spare => uptoBulkAll elems + uptoBulkAll spare + 1
  | .agg parts => uptoBulkAll parts + 1
  | .iface _ d => uptoBulk d + 1
  | .map entries => uptoBulkEntries entries + 1
  | .held _ => 1
def uptoBulkAll {H : Type} : List (DataW H) → Nat
  | [] => 0
  | d :: r => uptoBulk d + uptoBulkAll r
def uptoBulkEntries {H : Type} : List (Lit × DataW H) → Nat
  | [] => 0
  | x :: r => uptoBulkEntry x + uptoBulkEntries r
def uptoBulkEntry {H : Type} : Lit × DataW H → Nat
  | (.string bytes, d) => bytes.length + uptoBulk d + 1
  | (_, d) => uptoBulk d + 1
 end
def uptoSmall : (H : Type) → List (DataW H) → Bool := fun _ ds => decide (uptoBulkAll ds ≤ 1048576)
def OpenSpec.upto (s : _root_.Go.ChangeSpec) : _root_.Go.OpenSpec := { _root_.Go.OpenSpec.ofChange s with cond := some uptoSmall }

/-- 'laws.FnExactSingleGames', WHERE WHAT IT READS IS OF BULK AT MOST 1048576: true; the input reads as it did. -/
def fnExactSingleGamesUptoRow : OpenClaim := { program := "ytkfijamaakjifaa", sum := "aa418371e82a9cbac603198d5d007876f5a3b3101174700b79f240f06752f730", func := "loop.example/g03205/laws.FnExactSingleGames", spec := "fnExactSingleGames", unfollowed := true, recurses := true, apart := false, narrowed := true }
def FnExactSingleGamesUptoSaid : Prop := fnExactSingleGamesUptoRow.holds Try.pinned (OpenSpec.upto fnExactSingleGamesSpec)

/-- 'laws.FnExactDoubleWinner', WHERE WHAT IT READS IS OF BULK AT MOST 1048576: true; the input reads as it did. -/
def fnExactDoubleWinnerUptoRow : OpenClaim := { program := "ytkfijamaakjifaa", sum := "aa418371e82a9cbac603198d5d007876f5a3b3101174700b79f240f06752f730", func := "loop.example/g03205/laws.FnExactDoubleWinner", spec := "fnExactDoubleWinner", unfollowed := true, recurses := true, apart := false, narrowed := true }
def FnExactDoubleWinnerUptoSaid : Prop := fnExactDoubleWinnerUptoRow.holds Try.pinned (OpenSpec.upto fnExactDoubleWinnerSpec)

/-- 'laws.FnExactFirstOut', WHERE WHAT IT READS IS OF BULK AT MOST 1048576: true; the input reads as it did. -/
def fnExactFirstOutUptoRow : OpenClaim := { program := "ytkfijamaakjifaa", sum := "aa418371e82a9cbac603198d5d007876f5a3b3101174700b79f240f06752f730", func := "loop.example/g03205/laws.FnExactFirstOut", spec := "fnExactFirstOut", unfollowed := true, recurses := true, apart := false, narrowed := true }
def FnExactFirstOutUptoSaid : Prop := fnExactFirstOutUptoRow.holds Try.pinned (OpenSpec.upto fnExactFirstOutSpec)

/-- 'laws.FnExactDefeatsOf', WHERE WHAT IT READS IS OF BULK AT MOST 1048576: true; the input reads as it did. -/
def fnExactDefeatsOfUptoRow : OpenClaim := { program := "ytkfijamaakjifaa", sum := "aa418371e82a9cbac603198d5d007876f5a3b3101174700b79f240f06752f730", func := "loop.example/g03205/laws.FnExactDefeatsOf", spec := "fnExactDefeatsOf", unfollowed := true, recurses := true, apart := false, narrowed := true }
def FnExactDefeatsOfUptoSaid : Prop := fnExactDefeatsOfUptoRow.holds Try.pinned (OpenSpec.upto fnExactDefeatsOfSpec)

/-- 'laws.FnExactDoublePlaces', WHERE WHAT IT READS IS OF BULK AT MOST 1048576: true; the input reads as it did. -/
def fnExactDoublePlacesUptoRow : OpenClaim := { program := "ytkfijamaakjifaa", sum := "aa418371e82a9cbac603198d5d007876f5a3b3101174700b79f240f06752f730", func := "loop.example/g03205/laws.FnExactDoublePlaces", spec := "fnExactDoublePlaces", unfollowed := true, recurses := true, apart := false, narrowed := true }
def FnExactDoublePlacesUptoSaid : Prop := fnExactDoublePlacesUptoRow.holds Try.pinned (OpenSpec.upto fnExactDoublePlacesSpec)

/-- 'laws.FnExactGamesOf', WHERE WHAT IT READS IS OF BULK AT MOST 1048576: true; the input reads as it did. -/
def fnExactGamesOfUptoRow : OpenClaim := { program := "ytkfijamaakjifaa", sum := "aa418371e82a9cbac603198d5d007876f5a3b3101174700b79f240f06752f730", func := "loop.example/g03205/laws.FnExactGamesOf", spec := "fnExactGamesOf", unfollowed := true, recurses := true, apart := false, narrowed := true }
def FnExactGamesOfUptoSaid : Prop := fnExactGamesOfUptoRow.holds Try.pinned (OpenSpec.upto fnExactGamesOfSpec)

/-- 'laws.FnExactDoubleGames', WHERE WHAT IT READS IS OF BULK AT MOST 1048576: true; the input reads as it did. -/
def fnExactDoubleGamesUptoRow : OpenClaim := { program := "ytkfijamaakjifaa", sum := "aa418371e82a9cbac603198d5d007876f5a3b3101174700b79f240f06752f730", func := "loop.example/g03205/laws.FnExactDoubleGames", spec := "fnExactDoubleGames", unfollowed := true, recurses := true, apart := false, narrowed := true }
def FnExactDoubleGamesUptoSaid : Prop := fnExactDoubleGamesUptoRow.holds Try.pinned (OpenSpec.upto fnExactDoubleGamesSpec)

/-- 'laws.FnExactDoubleOrder', WHERE WHAT IT READS IS OF BULK AT MOST 1048576: true; the input reads as it did. -/
def fnExactDoubleOrderUptoRow : OpenClaim := { program := "ytkfijamaakjifaa", sum := "aa418371e82a9cbac603198d5d007876f5a3b3101174700b79f240f06752f730", func := "loop.example/g03205/laws.FnExactDoubleOrder", spec := "fnExactDoubleOrder", unfollowed := true, recurses := true, apart := false, narrowed := true }
def FnExactDoubleOrderUptoSaid : Prop := fnExactDoubleOrderUptoRow.holds Try.pinned (OpenSpec.upto fnExactDoubleOrderSpec)

/-- 'laws.FnExactWasReset', WHERE WHAT IT READS IS OF BULK AT MOST 1048576: true; the input reads as it did. -/
def fnExactWasResetUptoRow : OpenClaim := { program := "ytkfijamaakjifaa", sum := "aa418371e82a9cbac603198d5d007876f5a3b3101174700b79f240f06752f730", func := "loop.example/g03205/laws.FnExactWasReset", spec := "fnExactWasReset", unfollowed := true, recurses := true, apart := false, narrowed := true }
def FnExactWasResetUptoSaid : Prop := fnExactWasResetUptoRow.holds Try.pinned (OpenSpec.upto fnExactWasResetSpec)

/-- 'laws.FnDouble', WHERE WHAT IT READS IS OF BULK AT MOST 1048576: true; the input reads as it did. -/
def fnDoubleUptoRow : OpenClaim := { program := "ytkfijamaakjifaa", sum := "aa418371e82a9cbac603198d5d007876f5a3b3101174700b79f240f06752f730", func := "loop.example/g03205/laws.FnDouble", spec := "fnDouble", unfollowed := true, recurses := true, apart := false, narrowed := true }
def FnDoubleUptoSaid : Prop := fnDoubleUptoRow.holds Try.pinned (OpenSpec.upto fnDoubleSpec)

end Rows
end Go.Proofs.Ytkfijamaakjifaa
