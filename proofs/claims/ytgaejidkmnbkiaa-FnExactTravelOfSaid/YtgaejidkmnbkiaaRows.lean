/-
  No cell of these rows narrows 'for every input' (looked for: loops, veiled, ifaces, maps, wideKeys, modest, calm, conditions, laid).
  DERIVED. THE GIVEN ROWS OF THIS SEAT. 8 by the template 'for every input the law returns true; each argument reads behind the call as it read before'; 0 by the template 'total and deterministic' (their statements: YtgaejidkmnbkiaaTotals.lean).
  GIVEN WITH THE SEED: the statements are not yours to turn. If you find one false, say at which input.
  Laid BY PROGRAM, IN A SANDBOX (cutbox-rows.mjs): the forced cells as the released guide's own fill.sh prints them over the translation 9515c8eeaa4a5908… (all of the seat's roots in one cut). By AI agents, Wed Nov 11 2026. No macro, syntax, notation, axiom, sorry.
-/
import Derived.Test.YtgaejidkmnbkiaaChecked
import GoSem.Claim
import GoSem.ClaimJoined
import GoSem.ClaimMapViews
import Derived.JoinedTies
import Derived.KernelRfl
namespace Go.Proofs.Ytgaejidkmnbkiaa
/- THE CELL 'sum', in the pinned program and in every row, IS THE sha256 OF THE DUMP (.gsa) THAT YtgaejidkmnbkiaaProg.lean LOADS. Nothing in Lean hashes anything: it is a label: what it is worth is what the hold of that sum in a sandbox is worth. -/
noncomputable def Try.pinned : Pinned := { name := "ytgaejidkmnbkiaa", sum := "9515c8eeaa4a5908d8ac3e6b3debb82c91123121aa03a368709c33379b5c4161", checked := Try.checked }
namespace Rows
def none {H : Type} : Left H := { results := [], args := [] }

/-- 'laws.FnExactIsMetric': WHATEVER THE INPUT: true; the input reads as it did. -/
def fnExactIsMetricSpec : ChangeSpec := { name := "fnExactIsMetric", fn := fun _ => fun
  | [d1, d2] => { results := [.lit (.bool true)], args := [d1, d2] }
  | _ => none }
def fnExactIsMetricRow : OpenClaim := { program := "ytgaejidkmnbkiaa", sum := "9515c8eeaa4a5908d8ac3e6b3debb82c91123121aa03a368709c33379b5c4161", func := "loop.example/g03205/laws.FnExactIsMetric", spec := "fnExactIsMetric", unfollowed := true, recurses := true, plainKeys := false, apart := false }
def FnExactIsMetricSaid : Prop := fnExactIsMetricRow.holds Try.pinned (OpenSpec.ofChange fnExactIsMetricSpec)

/-- ITS FALSE NEIGHBOUR: 'it returns false'. Refute it at one input. -/
def fnExactIsMetricWrong : ChangeSpec := { name := "fnExactIsMetric", fn := fun _ => fun
  | [d1, d2] => { results := [.lit (.bool false)], args := [d1, d2] }
  | _ => none }
def FnExactIsMetricWrongFalsely : Prop := fnExactIsMetricRow.holds Try.pinned (OpenSpec.ofChange fnExactIsMetricWrong)

/-- 'laws.FnExactLongestStay': WHATEVER THE INPUT: true; the input reads as it did. -/
def fnExactLongestStaySpec : ChangeSpec := { name := "fnExactLongestStay", fn := fun _ => fun
  | [d1, d2, d3] => { results := [.lit (.bool true)], args := [d1, d2, d3] }
  | _ => none }
def fnExactLongestStayRow : OpenClaim := { program := "ytgaejidkmnbkiaa", sum := "9515c8eeaa4a5908d8ac3e6b3debb82c91123121aa03a368709c33379b5c4161", func := "loop.example/g03205/laws.FnExactLongestStay", spec := "fnExactLongestStay", unfollowed := true, recurses := true, plainKeys := false, apart := false }
def FnExactLongestStaySaid : Prop := fnExactLongestStayRow.holds Try.pinned (OpenSpec.ofChange fnExactLongestStaySpec)

/-- ITS FALSE NEIGHBOUR: 'it returns false'. Refute it at one input. -/
def fnExactLongestStayWrong : ChangeSpec := { name := "fnExactLongestStay", fn := fun _ => fun
  | [d1, d2, d3] => { results := [.lit (.bool false)], args := [d1, d2, d3] }
  | _ => none }
def FnExactLongestStayWrongFalsely : Prop := fnExactLongestStayRow.holds Try.pinned (OpenSpec.ofChange fnExactLongestStayWrong)

/-- 'laws.FnExactLongestTour': WHATEVER THE INPUT: true; the input reads as it did. -/
def fnExactLongestTourSpec : ChangeSpec := { name := "fnExactLongestTour", fn := fun _ => fun
  | [d1, d2, d3] => { results := [.lit (.bool true)], args := [d1, d2, d3] }
  | _ => none }
def fnExactLongestTourRow : OpenClaim := { program := "ytgaejidkmnbkiaa", sum := "9515c8eeaa4a5908d8ac3e6b3debb82c91123121aa03a368709c33379b5c4161", func := "loop.example/g03205/laws.FnExactLongestTour", spec := "fnExactLongestTour", unfollowed := true, recurses := true, plainKeys := false, apart := false }
def FnExactLongestTourSaid : Prop := fnExactLongestTourRow.holds Try.pinned (OpenSpec.ofChange fnExactLongestTourSpec)

/-- ITS FALSE NEIGHBOUR: 'it returns false'. Refute it at one input. -/
def fnExactLongestTourWrong : ChangeSpec := { name := "fnExactLongestTour", fn := fun _ => fun
  | [d1, d2, d3] => { results := [.lit (.bool false)], args := [d1, d2, d3] }
  | _ => none }
def FnExactLongestTourWrongFalsely : Prop := fnExactLongestTourRow.holds Try.pinned (OpenSpec.ofChange fnExactLongestTourWrong)

/-- 'laws.FnExactPlacesOf': WHATEVER THE INPUT: true; the input reads as it did. -/
def fnExactPlacesOfSpec : ChangeSpec := { name := "fnExactPlacesOf", fn := fun _ => fun
  | [d1, d2, d3] => { results := [.lit (.bool true)], args := [d1, d2, d3] }
  | _ => none }
def fnExactPlacesOfRow : OpenClaim := { program := "ytgaejidkmnbkiaa", sum := "9515c8eeaa4a5908d8ac3e6b3debb82c91123121aa03a368709c33379b5c4161", func := "loop.example/g03205/laws.FnExactPlacesOf", spec := "fnExactPlacesOf", plainKeys := false, apart := false }
def FnExactPlacesOfSaid : Prop := fnExactPlacesOfRow.holds Try.pinned (OpenSpec.ofChange fnExactPlacesOfSpec)

/-- ITS FALSE NEIGHBOUR: 'it returns false'. Refute it at one input. -/
def fnExactPlacesOfWrong : ChangeSpec := { name := "fnExactPlacesOf", fn := fun _ => fun
  | [d1, d2, d3] => { results := [.lit (.bool false)], args := [d1, d2, d3] }
  | _ => none }
def FnExactPlacesOfWrongFalsely : Prop := fnExactPlacesOfRow.holds Try.pinned (OpenSpec.ofChange fnExactPlacesOfWrong)

/-- 'laws.FnExactLeastTour': WHATEVER THE INPUT: true; the input reads as it did. -/
def fnExactLeastTourSpec : ChangeSpec := { name := "fnExactLeastTour", fn := fun _ => fun
  | [d1, d2, d3, d4] => { results := [.lit (.bool true)], args := [d1, d2, d3, d4] }
  | _ => none }
def fnExactLeastTourRow : OpenClaim := { program := "ytgaejidkmnbkiaa", sum := "9515c8eeaa4a5908d8ac3e6b3debb82c91123121aa03a368709c33379b5c4161", func := "loop.example/g03205/laws.FnExactLeastTour", spec := "fnExactLeastTour", unfollowed := true, recurses := true, plainKeys := false, apart := false }
def FnExactLeastTourSaid : Prop := fnExactLeastTourRow.holds Try.pinned (OpenSpec.ofChange fnExactLeastTourSpec)

/-- ITS FALSE NEIGHBOUR: 'it returns false'. Refute it at one input. -/
def fnExactLeastTourWrong : ChangeSpec := { name := "fnExactLeastTour", fn := fun _ => fun
  | [d1, d2, d3, d4] => { results := [.lit (.bool false)], args := [d1, d2, d3, d4] }
  | _ => none }
def FnExactLeastTourWrongFalsely : Prop := fnExactLeastTourRow.holds Try.pinned (OpenSpec.ofChange fnExactLeastTourWrong)

/-- 'laws.FnExactTripOf': WHATEVER THE INPUT: true; the input reads as it did. -/
def fnExactTripOfSpec : ChangeSpec := { name := "fnExactTripOf", fn := fun _ => fun
  | [d1, d2, d3, d4] => { results := [.lit (.bool true)], args := [d1, d2, d3, d4] }
  | _ => none }
def fnExactTripOfRow : OpenClaim := { program := "ytgaejidkmnbkiaa", sum := "9515c8eeaa4a5908d8ac3e6b3debb82c91123121aa03a368709c33379b5c4161", func := "loop.example/g03205/laws.FnExactTripOf", spec := "fnExactTripOf", unfollowed := true, recurses := true, plainKeys := false, apart := false }
def FnExactTripOfSaid : Prop := fnExactTripOfRow.holds Try.pinned (OpenSpec.ofChange fnExactTripOfSpec)

/-- ITS FALSE NEIGHBOUR: 'it returns false'. Refute it at one input. -/
def fnExactTripOfWrong : ChangeSpec := { name := "fnExactTripOf", fn := fun _ => fun
  | [d1, d2, d3, d4] => { results := [.lit (.bool false)], args := [d1, d2, d3, d4] }
  | _ => none }
def FnExactTripOfWrongFalsely : Prop := fnExactTripOfRow.holds Try.pinned (OpenSpec.ofChange fnExactTripOfWrong)

/-- 'laws.FnExactTravelOf': WHATEVER THE INPUT: true; the input reads as it did. -/
def fnExactTravelOfSpec : ChangeSpec := { name := "fnExactTravelOf", fn := fun _ => fun
  | [d1, d2, d3] => { results := [.lit (.bool true)], args := [d1, d2, d3] }
  | _ => none }
def fnExactTravelOfRow : OpenClaim := { program := "ytgaejidkmnbkiaa", sum := "9515c8eeaa4a5908d8ac3e6b3debb82c91123121aa03a368709c33379b5c4161", func := "loop.example/g03205/laws.FnExactTravelOf", spec := "fnExactTravelOf", unfollowed := true, recurses := true, plainKeys := false, apart := false }
def FnExactTravelOfSaid : Prop := fnExactTravelOfRow.holds Try.pinned (OpenSpec.ofChange fnExactTravelOfSpec)

/-- ITS FALSE NEIGHBOUR: 'it returns false'. Refute it at one input. -/
def fnExactTravelOfWrong : ChangeSpec := { name := "fnExactTravelOf", fn := fun _ => fun
  | [d1, d2, d3] => { results := [.lit (.bool false)], args := [d1, d2, d3] }
  | _ => none }
def FnExactTravelOfWrongFalsely : Prop := fnExactTravelOfRow.holds Try.pinned (OpenSpec.ofChange fnExactTravelOfWrong)

/-- 'laws.FnTravel': WHATEVER THE INPUT: true; the input reads as it did. -/
def fnTravelSpec : ChangeSpec := { name := "fnTravel", fn := fun _ => fun
  | [d] => { results := [.lit (.bool true)], args := [d] }
  | _ => none }
def fnTravelRow : OpenClaim := { program := "ytgaejidkmnbkiaa", sum := "9515c8eeaa4a5908d8ac3e6b3debb82c91123121aa03a368709c33379b5c4161", func := "loop.example/g03205/laws.FnTravel", spec := "fnTravel", unfollowed := true, recurses := true, plainKeys := false, apart := false }
def FnTravelSaid : Prop := fnTravelRow.holds Try.pinned (OpenSpec.ofChange fnTravelSpec)

/-- ITS FALSE NEIGHBOUR: 'it returns false'. Refute it at one input. -/
def fnTravelWrong : ChangeSpec := { name := "fnTravel", fn := fun _ => fun
  | [d] => { results := [.lit (.bool false)], args := [d] }
  | _ => none }
def FnTravelWrongFalsely : Prop := fnTravelRow.holds Try.pinned (OpenSpec.ofChange fnTravelWrong)

/- THE SECOND FORM. 'bulk': how many values and letters a reading holds, each counted each time it is reached (what is shared counts as often as it is met; a slice's spare places count too). A statement '..UptoSaid' is the law's where the arguments, and the package variables that the reading takes, are together of bulk at most 1048576: NARROWER than '..Said'. Prove '..Said' where nothing that the law and all that it calls make is longer than what came in: it says more and counts as full. Else prove '..UptoSaid'. A law counts once. -/
mutual
def uptoBulk {H : Type} : DataW H → Nat
  | .lit (.string bytes) => bytes.length + 1
  | .lit _ => 1
  | .nil => 1
  | .ptr d => uptoBulk d + 1
  | .slice elems spare => uptoBulkAll elems + uptoBulkAll spare + 1
  | .agg parts => uptoBulkAll parts + 1
  | .iface _ d => uptoBulk d + 1
  | .map entries => uptoBulkEntries entries + 1
  | .held _ => 1
def uptoBulkAll {H : Type} : List (DataW H) → Nat
  | [] => 0
  | d :: r => uptoBulk d + uptoBulkAll r
def uptoBulkEntries {H : Type} : List (Lit × DataW H) → Nat
  | [] => 0
  | x :: r => uptoBulkEntry x + uptoBulkEntries r
def uptoBulkEntry {H : Type} : Lit × DataW H → Nat
  | (.string bytes, d) => bytes.length + uptoBulk d + 1
  | (_, d) => uptoBulk d + 1
 end
def uptoSmall : (H : Type) → List (DataW H) → Bool := fun _ ds => decide (uptoBulkAll ds ≤ 1048576)
def OpenSpec.upto (s : _root_.Go.ChangeSpec) : _root_.Go.OpenSpec := { _root_.Go.OpenSpec.ofChange s with cond := some uptoSmall }

/-- 'laws.FnExactIsMetric', WHERE WHAT IT READS IS OF BULK AT MOST 1048576: true; the input reads as it did. -/
def fnExactIsMetricUptoRow : OpenClaim := { program := "ytgaejidkmnbkiaa", sum := "9515c8eeaa4a5908d8ac3e6b3debb82c91123121aa03a368709c33379b5c4161", func := "loop.example/g03205/laws.FnExactIsMetric", spec := "fnExactIsMetric", unfollowed := true, recurses := true, plainKeys := false, apart := false, narrowed := true }
def FnExactIsMetricUptoSaid : Prop := fnExactIsMetricUptoRow.holds Try.pinned (OpenSpec.upto fnExactIsMetricSpec)

/-- 'laws.FnExactLongestStay', WHERE WHAT IT READS IS OF BULK AT MOST 1048576: true; the input reads as it did. -/
def fnExactLongestStayUptoRow : OpenClaim := { program := "ytgaejidkmnbkiaa", sum := "9515c8eeaa4a5908d8ac3e6b3debb82c91123121aa03a368709c33379b5c4161", func := "loop.example/g03205/laws.FnExactLongestStay", spec := "fnExactLongestStay", unfollowed := true, recurses := true, plainKeys := false, apart := false, narrowed := true }
def FnExactLongestStayUptoSaid : Prop := fnExactLongestStayUptoRow.holds Try.pinned (OpenSpec.upto fnExactLongestStaySpec)

/-- 'laws.FnExactLongestTour', WHERE WHAT IT READS IS OF BULK AT MOST 1048576: true; the input reads as it did. -/
def fnExactLongestTourUptoRow : OpenClaim := { program := "ytgaejidkmnbkiaa", sum := "9515c8eeaa4a5908d8ac3e6b3debb82c91123121aa03a368709c33379b5c4161", func := "loop.example/g03205/laws.FnExactLongestTour", spec := "fnExactLongestTour", unfollowed := true, recurses := true, plainKeys := false, apart := false, narrowed := true }
def FnExactLongestTourUptoSaid : Prop := fnExactLongestTourUptoRow.holds Try.pinned (OpenSpec.upto fnExactLongestTourSpec)

/-- 'laws.FnExactPlacesOf', WHERE WHAT IT READS IS OF BULK AT MOST 1048576: true; the input reads as it did. -/
def fnExactPlacesOfUptoRow : OpenClaim := { program := "ytgaejidkmnbkiaa", sum := "9515c8eeaa4a5908d8ac3e6b3debb82c91123121aa03a368709c33379b5c4161", func := "loop.example/g03205/laws.FnExactPlacesOf", spec := "fnExactPlacesOf", plainKeys := false, apart := false, narrowed := true }
def FnExactPlacesOfUptoSaid : Prop := fnExactPlacesOfUptoRow.holds Try.pinned (OpenSpec.upto fnExactPlacesOfSpec)

/-- 'laws.FnExactLeastTour', WHERE WHAT IT READS IS OF BULK AT MOST 1048576: true; the input reads as it did. -/
def fnExactLeastTourUptoRow : OpenClaim := { program := "ytgaejidkmnbkiaa", sum := "9515c8eeaa4a5908d8ac3e6b3debb82c91123121aa03a368709c33379b5c4161", func := "loop.example/g03205/laws.FnExactLeastTour", spec := "fnExactLeastTour", unfollowed := true, recurses := true, plainKeys := false, apart := false, narrowed := true }
def FnExactLeastTourUptoSaid : Prop := fnExactLeastTourUptoRow.holds Try.pinned (OpenSpec.upto fnExactLeastTourSpec)

/-- 'laws.FnExactTripOf', WHERE WHAT IT READS IS OF BULK AT MOST 1048576: true; the input reads as it did. -/
def fnExactTripOfUptoRow : OpenClaim := { program := "ytgaejidkmnbkiaa", sum := "9515c8eeaa4a5908d8ac3e6b3debb82c91123121aa03a368709c33379b5c4161", func := "loop.example/g03205/laws.FnExactTripOf", spec := "fnExactTripOf", unfollowed := true, recurses := true, plainKeys := false, apart := false, narrowed := true }
def FnExactTripOfUptoSaid : Prop := fnExactTripOfUptoRow.holds Try.pinned (OpenSpec.upto fnExactTripOfSpec)

/-- 'laws.FnExactTravelOf', WHERE WHAT IT READS IS OF BULK AT MOST 1048576: true; the input reads as it did. -/
def fnExactTravelOfUptoRow : OpenClaim := { program := "ytgaejidkmnbkiaa", sum := "9515c8eeaa4a5908d8ac3e6b3debb82c91123121aa03a368709c33379b5c4161", func := "loop.example/g03205/laws.FnExactTravelOf", spec := "fnExactTravelOf", unfollowed := true, recurses := true, plainKeys := false, apart := false, narrowed := true }
def FnExactTravelOfUptoSaid : Prop := fnExactTravelOfUptoRow.holds Try.pinned (OpenSpec.upto fnExactTravelOfSpec)

/-- 'laws.FnTravel', WHERE WHAT IT READS IS OF BULK AT MOST 1048576: true; the input reads as it did. -/
def fnTravelUptoRow : OpenClaim := { program := "ytgaejidkmnbkiaa", sum := "9515c8eeaa4a5908d8ac3e6b3debb82c91123121aa03a368709c33379b5c4161", func := "loop.example/g03205/laws.FnTravel", spec := "fnTravel", unfollowed := true, recurses := true, plainKeys := false, apart := false, narrowed := true }
def FnTravelUptoSaid : Prop := fnTravelUptoRow.holds Try.pinned (OpenSpec.upto fnTravelSpec)

end Rows
end Go.Proofs.Ytgaejidkmnbkiaa
