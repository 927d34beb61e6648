/-
  No cell of these rows narrows 'for every input' (looked for: loops, veiled, ifaces, maps, wideKeys, modest, calm, conditions, laid).
  DERIVED. THE GIVEN ROWS OF THIS SEAT. 9 by the template 'for every input the law returns true; each argument reads behind the call as it read before'; 0 by the template 'total and deterministic' (their statements: YtonmdkhfongmhaaTotals.lean).
  GIVEN WITH THE SEED: the statements are not yours to turn. If you find one false, say at which input.
  Laid BY PROGRAM, IN A SANDBOX (cutbox-rows.mjs): the forced cells as the released guide's own fill.sh prints them over the translation 648349120a182757… (all of the seat's roots in one cut). By AI agents, Wed Nov 11 2026. No macro, syntax, notation, axiom, sorry.
-/
import Derived.Test.YtonmdkhfongmhaaChecked
import GoSem.Claim
import GoSem.ClaimJoined
import GoSem.ClaimMapViews
import Derived.JoinedTies
import Derived.KernelRfl
namespace Go.Proofs.Ytonmdkhfongmhaa
/- THE CELL 'sum', in the pinned program and in every row, IS THE sha256 OF THE DUMP (.gsa) THAT YtonmdkhfongmhaaProg.lean LOADS. Nothing in Lean hashes anything: it is a label: what it is worth is what the hold of that sum in a sandbox is worth. -/
noncomputable def Try.pinned : Pinned := { name := "ytonmdkhfongmhaa", sum := "648349120a182757d759a4ee57cc0dcc097b33feedd9f4fcf00f8e2272922925", checked := Try.checked }
namespace Rows
def none {H : Type} : Left H := { results := [], args := [] }

/-- 'laws.FnExactMedianSlope': WHATEVER THE INPUT: true; the input reads as it did. -/
def fnExactMedianSlopeSpec : ChangeSpec := { name := "fnExactMedianSlope", fn := fun _ => fun
  | [d] => { results := [.lit (.bool true)], args := [d] }
  | _ => none }
def fnExactMedianSlopeRow : OpenClaim := { program := "ytonmdkhfongmhaa", sum := "648349120a182757d759a4ee57cc0dcc097b33feedd9f4fcf00f8e2272922925", func := "loop.example/g01288/laws.FnExactMedianSlope", spec := "fnExactMedianSlope", unfollowed := true, recurses := true, apart := false }
def FnExactMedianSlopeSaid : Prop := fnExactMedianSlopeRow.holds Try.pinned (OpenSpec.ofChange fnExactMedianSlopeSpec)

/-- ITS FALSE NEIGHBOUR: 'it returns false'. Refute it at one input. -/
def fnExactMedianSlopeWrong : ChangeSpec := { name := "fnExactMedianSlope", fn := fun _ => fun
  | [d] => { results := [.lit (.bool false)], args := [d] }
  | _ => none }
def FnExactMedianSlopeWrongFalsely : Prop := fnExactMedianSlopeRow.holds Try.pinned (OpenSpec.ofChange fnExactMedianSlopeWrong)

/-- 'laws.FnExactWorstReading': WHATEVER THE INPUT: true; the input reads as it did. -/
def fnExactWorstReadingSpec : ChangeSpec := { name := "fnExactWorstReading", fn := fun _ => fun
  | [d1, d2, d3] => { results := [.lit (.bool true)], args := [d1, d2, d3] }
  | _ => none }
def fnExactWorstReadingRow : OpenClaim := { program := "ytonmdkhfongmhaa", sum := "648349120a182757d759a4ee57cc0dcc097b33feedd9f4fcf00f8e2272922925", func := "loop.example/g01288/laws.FnExactWorstReading", spec := "fnExactWorstReading", inPlace := ["math.Float64bits", "math.Float64frombits"], unfollowed := true, recurses := true, apart := false }
def FnExactWorstReadingSaid : Prop := fnExactWorstReadingRow.holds Try.pinned (OpenSpec.ofChange fnExactWorstReadingSpec)

/-- ITS FALSE NEIGHBOUR: 'it returns false'. Refute it at one input. -/
def fnExactWorstReadingWrong : ChangeSpec := { name := "fnExactWorstReading", fn := fun _ => fun
  | [d1, d2, d3] => { results := [.lit (.bool false)], args := [d1, d2, d3] }
  | _ => none }
def FnExactWorstReadingWrongFalsely : Prop := fnExactWorstReadingRow.holds Try.pinned (OpenSpec.ofChange fnExactWorstReadingWrong)

/-- 'laws.FnExactMisfitOf': WHATEVER THE INPUT: true; the input reads as it did. -/
def fnExactMisfitOfSpec : ChangeSpec := { name := "fnExactMisfitOf", fn := fun _ => fun
  | [d1, d2, d3] => { results := [.lit (.bool true)], args := [d1, d2, d3] }
  | _ => none }
def fnExactMisfitOfRow : OpenClaim := { program := "ytonmdkhfongmhaa", sum := "648349120a182757d759a4ee57cc0dcc097b33feedd9f4fcf00f8e2272922925", func := "loop.example/g01288/laws.FnExactMisfitOf", spec := "fnExactMisfitOf", inPlace := ["math.Float64bits", "math.Float64frombits"], unfollowed := true, recurses := true, apart := false }
def FnExactMisfitOfSaid : Prop := fnExactMisfitOfRow.holds Try.pinned (OpenSpec.ofChange fnExactMisfitOfSpec)

/-- ITS FALSE NEIGHBOUR: 'it returns false'. Refute it at one input. -/
def fnExactMisfitOfWrong : ChangeSpec := { name := "fnExactMisfitOf", fn := fun _ => fun
  | [d1, d2, d3] => { results := [.lit (.bool false)], args := [d1, d2, d3] }
  | _ => none }
def FnExactMisfitOfWrongFalsely : Prop := fnExactMisfitOfRow.holds Try.pinned (OpenSpec.ofChange fnExactMisfitOfWrong)

/-- 'laws.FnExactReadingsFrom': WHATEVER THE INPUT: true; the input reads as it did. -/
def fnExactReadingsFromSpec : ChangeSpec := { name := "fnExactReadingsFrom", fn := fun _ => fun
  | [d1, d2, d3] => { results := [.lit (.bool true)], args := [d1, d2, d3] }
  | _ => none }
def fnExactReadingsFromRow : OpenClaim := { program := "ytonmdkhfongmhaa", sum := "648349120a182757d759a4ee57cc0dcc097b33feedd9f4fcf00f8e2272922925", func := "loop.example/g01288/laws.FnExactReadingsFrom", spec := "fnExactReadingsFrom", inPlace := ["math.archFloor", "math.Float64bits", "math.Float64frombits", "math.archTrunc", "math.archCeil"], apart := false }
def FnExactReadingsFromSaid : Prop := fnExactReadingsFromRow.holds Try.pinned (OpenSpec.ofChange fnExactReadingsFromSpec)

/-- ITS FALSE NEIGHBOUR: 'it returns false'. Refute it at one input. -/
def fnExactReadingsFromWrong : ChangeSpec := { name := "fnExactReadingsFrom", fn := fun _ => fun
  | [d1, d2, d3] => { results := [.lit (.bool false)], args := [d1, d2, d3] }
  | _ => none }
def FnExactReadingsFromWrongFalsely : Prop := fnExactReadingsFromRow.holds Try.pinned (OpenSpec.ofChange fnExactReadingsFromWrong)

/-- 'laws.FnExactFitFrom': WHATEVER THE INPUT: true; the input reads as it did. -/
def fnExactFitFromSpec : ChangeSpec := { name := "fnExactFitFrom", fn := fun _ => fun
  | [d1, d2, d3, d4] => { results := [.lit (.bool true)], args := [d1, d2, d3, d4] }
  | _ => none }
def fnExactFitFromRow : OpenClaim := { program := "ytonmdkhfongmhaa", sum := "648349120a182757d759a4ee57cc0dcc097b33feedd9f4fcf00f8e2272922925", func := "loop.example/g01288/laws.FnExactFitFrom", spec := "fnExactFitFrom", inPlace := ["math.Float64bits", "math.Float64frombits"], unfollowed := true, recurses := true, apart := false }
def FnExactFitFromSaid : Prop := fnExactFitFromRow.holds Try.pinned (OpenSpec.ofChange fnExactFitFromSpec)

/-- ITS FALSE NEIGHBOUR: 'it returns false'. Refute it at one input. -/
def fnExactFitFromWrong : ChangeSpec := { name := "fnExactFitFrom", fn := fun _ => fun
  | [d1, d2, d3, d4] => { results := [.lit (.bool false)], args := [d1, d2, d3, d4] }
  | _ => none }
def FnExactFitFromWrongFalsely : Prop := fnExactFitFromRow.holds Try.pinned (OpenSpec.ofChange fnExactFitFromWrong)

/-- 'laws.FnExactBestGuess': WHATEVER THE INPUT: true; the input reads as it did. -/
def fnExactBestGuessSpec : ChangeSpec := { name := "fnExactBestGuess", fn := fun _ => fun
  | [d1, d2, d3] => { results := [.lit (.bool true)], args := [d1, d2, d3] }
  | _ => none }
def fnExactBestGuessRow : OpenClaim := { program := "ytonmdkhfongmhaa", sum := "648349120a182757d759a4ee57cc0dcc097b33feedd9f4fcf00f8e2272922925", func := "loop.example/g01288/laws.FnExactBestGuess", spec := "fnExactBestGuess", inPlace := ["math.Float64bits", "math.Float64frombits"], unfollowed := true, recurses := true, apart := false }
def FnExactBestGuessSaid : Prop := fnExactBestGuessRow.holds Try.pinned (OpenSpec.ofChange fnExactBestGuessSpec)

/-- ITS FALSE NEIGHBOUR: 'it returns false'. Refute it at one input. -/
def fnExactBestGuessWrong : ChangeSpec := { name := "fnExactBestGuess", fn := fun _ => fun
  | [d1, d2, d3] => { results := [.lit (.bool false)], args := [d1, d2, d3] }
  | _ => none }
def FnExactBestGuessWrongFalsely : Prop := fnExactBestGuessRow.holds Try.pinned (OpenSpec.ofChange fnExactBestGuessWrong)

/-- 'laws.FnExactSmoothedReadings': WHATEVER THE INPUT: true; the input reads as it did. -/
def fnExactSmoothedReadingsSpec : ChangeSpec := { name := "fnExactSmoothedReadings", fn := fun _ => fun
  | [d] => { results := [.lit (.bool true)], args := [d] }
  | _ => none }
def fnExactSmoothedReadingsRow : OpenClaim := { program := "ytonmdkhfongmhaa", sum := "648349120a182757d759a4ee57cc0dcc097b33feedd9f4fcf00f8e2272922925", func := "loop.example/g01288/laws.FnExactSmoothedReadings", spec := "fnExactSmoothedReadings", recurses := true, apart := false }
def FnExactSmoothedReadingsSaid : Prop := fnExactSmoothedReadingsRow.holds Try.pinned (OpenSpec.ofChange fnExactSmoothedReadingsSpec)

/-- ITS FALSE NEIGHBOUR: 'it returns false'. Refute it at one input. -/
def fnExactSmoothedReadingsWrong : ChangeSpec := { name := "fnExactSmoothedReadings", fn := fun _ => fun
  | [d] => { results := [.lit (.bool false)], args := [d] }
  | _ => none }
def FnExactSmoothedReadingsWrongFalsely : Prop := fnExactSmoothedReadingsRow.holds Try.pinned (OpenSpec.ofChange fnExactSmoothedReadingsWrong)

/-- 'laws.FnExactFitsWithin': WHATEVER THE INPUT: true; the input reads as it did. -/
def fnExactFitsWithinSpec : ChangeSpec := { name := "fnExactFitsWithin", fn := fun _ => fun
  | [d1, d2, d3, d4] => { results := [.lit (.bool true)], args := [d1, d2, d3, d4] }
  | _ => none }
def fnExactFitsWithinRow : OpenClaim := { program := "ytonmdkhfongmhaa", sum := "648349120a182757d759a4ee57cc0dcc097b33feedd9f4fcf00f8e2272922925", func := "loop.example/g01288/laws.FnExactFitsWithin", spec := "fnExactFitsWithin", inPlace := ["math.Float64bits", "math.Float64frombits"], unfollowed := true, recurses := true, apart := false }
def FnExactFitsWithinSaid : Prop := fnExactFitsWithinRow.holds Try.pinned (OpenSpec.ofChange fnExactFitsWithinSpec)

/-- ITS FALSE NEIGHBOUR: 'it returns false'. Refute it at one input. -/
def fnExactFitsWithinWrong : ChangeSpec := { name := "fnExactFitsWithin", fn := fun _ => fun
  | [d1, d2, d3, d4] => { results := [.lit (.bool false)], args := [d1, d2, d3, d4] }
  | _ => none }
def FnExactFitsWithinWrongFalsely : Prop := fnExactFitsWithinRow.holds Try.pinned (OpenSpec.ofChange fnExactFitsWithinWrong)

/-- 'laws.FnExactTransmitSpan': WHATEVER THE INPUT: true; the input reads as it did. -/
def fnExactTransmitSpanSpec : ChangeSpec := { name := "fnExactTransmitSpan", fn := fun _ => fun
  | [d1, d2, d3, d4] => { results := [.lit (.bool true)], args := [d1, d2, d3, d4] }
  | _ => none }
def fnExactTransmitSpanRow : OpenClaim := { program := "ytonmdkhfongmhaa", sum := "648349120a182757d759a4ee57cc0dcc097b33feedd9f4fcf00f8e2272922925", func := "loop.example/g01288/laws.FnExactTransmitSpan", spec := "fnExactTransmitSpan", inPlace := ["math.Float64bits", "math.Float64frombits"], unfollowed := true, recurses := true, apart := false }
def FnExactTransmitSpanSaid : Prop := fnExactTransmitSpanRow.holds Try.pinned (OpenSpec.ofChange fnExactTransmitSpanSpec)

/-- ITS FALSE NEIGHBOUR: 'it returns false'. Refute it at one input. -/
def fnExactTransmitSpanWrong : ChangeSpec := { name := "fnExactTransmitSpan", fn := fun _ => fun
  | [d1, d2, d3, d4] => { results := [.lit (.bool false)], args := [d1, d2, d3, d4] }
  | _ => none }
def FnExactTransmitSpanWrongFalsely : Prop := fnExactTransmitSpanRow.holds Try.pinned (OpenSpec.ofChange fnExactTransmitSpanWrong)

/- THE SECOND FORM. 'bulk': how many values and letters a reading holds, each counted each time it is reached (what is shared counts as often as it is met; a slice's spare places count too). A statement '..UptoSaid' is the law's where the arguments, and the package variables that the reading takes, are together of bulk at most 1048576: NARROWER than '..Said'. Prove '..Said' where nothing that the law and all that it calls make is longer than what came in: it says more and counts as full. Else prove '..UptoSaid'. A law counts once. -/
mutual
def uptoBulk {H : Type} : DataW H → Nat
  | .lit (.string bytes) => bytes.length + 1
  | .lit _ => 1
  | .nil => 1
  | .ptr d => uptoBulk d + 1
  | .slice elems spare => uptoBulkAll elems + uptoBulkAll spare + 1
  | .agg parts => uptoBulkAll parts + 1
  | .iface _ d => uptoBulk d + 1
  | .map entries => uptoBulkEntries entries + 1
  | .held _ => 1
def uptoBulkAll {H : Type} : List (DataW H) → Nat
  | [] => 0
  | d :: r => uptoBulk d + uptoBulkAll r
def uptoBulkEntries {H : Type} : List (Lit × DataW H) → Nat
  | [] => 0
  | x :: r => uptoBulkEntry x + uptoBulkEntries r
def uptoBulkEntry {H : Type} : Lit × DataW H → Nat
  | (.string bytes, d) => bytes.length + uptoBulk d + 1
  | (_, d) => uptoBulk d + 1
 end
def uptoSmall : (H : Type) → List (DataW H) → Bool := fun _ ds => decide (uptoBulkAll ds ≤ 1048576)
def OpenSpec.upto (s : _root_.Go.ChangeSpec) : _root_.Go.OpenSpec := { _root_.Go.OpenSpec.ofChange s with cond := some uptoSmall }

/-- 'laws.FnExactMedianSlope', WHERE WHAT IT READS IS OF BULK AT MOST 1048576: true; the input reads as it did. -/
def fnExactMedianSlopeUptoRow : OpenClaim := { program := "ytonmdkhfongmhaa", sum := "648349120a182757d759a4ee57cc0dcc097b33feedd9f4fcf00f8e2272922925", func := "loop.example/g01288/laws.FnExactMedianSlope", spec := "fnExactMedianSlope", unfollowed := true, recurses := true, apart := false, narrowed := true }
def FnExactMedianSlopeUptoSaid : Prop := fnExactMedianSlopeUptoRow.holds Try.pinned (OpenSpec.upto fnExactMedianSlopeSpec)

/-- 'laws.FnExactWorstReading', WHERE WHAT IT READS IS OF BULK AT MOST 1048576: true; the input reads as it did. -/
def fnExactWorstReadingUptoRow : OpenClaim := { program := "ytonmdkhfongmhaa", sum := "648349120a182757d759a4ee57cc0dcc097b33feedd9f4fcf00f8e2272922925", func := "loop.example/g01288/laws.FnExactWorstReading", spec := "fnExactWorstReading", inPlace := ["math.Float64bits", "math.Float64frombits"], unfollowed := true, recurses := true, apart := false, narrowed := true }
def FnExactWorstReadingUptoSaid : Prop := fnExactWorstReadingUptoRow.holds Try.pinned (OpenSpec.upto fnExactWorstReadingSpec)

/-- 'laws.FnExactMisfitOf', WHERE WHAT IT READS IS OF BULK AT MOST 1048576: true; the input reads as it did. -/
def fnExactMisfitOfUptoRow : OpenClaim := { program := "ytonmdkhfongmhaa", sum := "648349120a182757d759a4ee57cc0dcc097b33feedd9f4fcf00f8e2272922925", func := "loop.example/g01288/laws.FnExactMisfitOf", spec := "fnExactMisfitOf", inPlace := ["math.Float64bits", "math.Float64frombits"], unfollowed := true, recurses := true, apart := false, narrowed := true }
def FnExactMisfitOfUptoSaid : Prop := fnExactMisfitOfUptoRow.holds Try.pinned (OpenSpec.upto fnExactMisfitOfSpec)

/-- 'laws.FnExactReadingsFrom', WHERE WHAT IT READS IS OF BULK AT MOST 1048576: true; the input reads as it did. -/
def fnExactReadingsFromUptoRow : OpenClaim := { program := "ytonmdkhfongmhaa", sum := "648349120a182757d759a4ee57cc0dcc097b33feedd9f4fcf00f8e2272922925", func := "loop.example/g01288/laws.FnExactReadingsFrom", spec := "fnExactReadingsFrom", inPlace := ["math.archFloor", "math.Float64bits", "math.Float64frombits", "math.archTrunc", "math.archCeil"], apart := false, narrowed := true }
def FnExactReadingsFromUptoSaid : Prop := fnExactReadingsFromUptoRow.holds Try.pinned (OpenSpec.upto fnExactReadingsFromSpec)

/-- 'laws.FnExactFitFrom', WHERE WHAT IT READS IS OF BULK AT MOST 1048576: true; the input reads as it did. -/
def fnExactFitFromUptoRow : OpenClaim := { program := "ytonmdkhfongmhaa", sum := "648349120a182757d759a4ee57cc0dcc097b33feedd9f4fcf00f8e2272922925", func := "loop.example/g01288/laws.FnExactFitFrom", spec := "fnExactFitFrom", inPlace := ["math.Float64bits", "math.Float64frombits"], unfollowed := true, recurses := true, apart := false, narrowed := true }
def FnExactFitFromUptoSaid : Prop := fnExactFitFromUptoRow.holds Try.pinned (OpenSpec.upto fnExactFitFromSpec)

/-- 'laws.FnExactBestGuess', WHERE WHAT IT READS IS OF BULK AT MOST 1048576: true; the input reads as it did. -/
def fnExactBestGuessUptoRow : OpenClaim := { program := "ytonmdkhfongmhaa", sum := "648349120a182757d759a4ee57cc0dcc097b33feedd9f4fcf00f8e2272922925", func := "loop.example/g01288/laws.FnExactBestGuess", spec := "fnExactBestGuess", inPlace := ["math.Float64bits", "math.Float64frombits"], unfollowed := true, recurses := true, apart := false, narrowed := true }
def FnExactBestGuessUptoSaid : Prop := fnExactBestGuessUptoRow.holds Try.pinned (OpenSpec.upto fnExactBestGuessSpec)

/-- 'laws.FnExactSmoothedReadings', WHERE WHAT IT READS IS OF BULK AT MOST 1048576: true; the input reads as it did. -/
def fnExactSmoothedReadingsUptoRow : OpenClaim := { program := "ytonmdkhfongmhaa", sum := "648349120a182757d759a4ee57cc0dcc097b33feedd9f4fcf00f8e2272922925", func := "loop.example/g01288/laws.FnExactSmoothedReadings", spec := "fnExactSmoothedReadings", recurses := true, apart := false, narrowed := true }
def FnExactSmoothedReadingsUptoSaid : Prop := fnExactSmoothedReadingsUptoRow.holds Try.pinned (OpenSpec.upto fnExactSmoothedReadingsSpec)

/-- 'laws.FnExactFitsWithin', WHERE WHAT IT READS IS OF BULK AT MOST 1048576: true; the input reads as it did. -/
def fnExactFitsWithinUptoRow : OpenClaim := { program := "ytonmdkhfongmhaa", sum := "648349120a182757d759a4ee57cc0dcc097b33feedd9f4fcf00f8e2272922925", func := "loop.example/g01288/laws.FnExactFitsWithin", spec := "fnExactFitsWithin", inPlace := ["math.Float64bits", "math.Float64frombits"], unfollowed := true, recurses := true, apart := false, narrowed := true }
def FnExactFitsWithinUptoSaid : Prop := fnExactFitsWithinUptoRow.holds Try.pinned (OpenSpec.upto fnExactFitsWithinSpec)

/-- 'laws.FnExactTransmitSpan', WHERE WHAT IT READS IS OF BULK AT MOST 1048576: true; the input reads as it did. -/
def fnExactTransmitSpanUptoRow : OpenClaim := { program := "ytonmdkhfongmhaa", sum := "648349120a182757d759a4ee57cc0dcc097b33feedd9f4fcf00f8e2272922925", func := "loop.example/g01288/laws.FnExactTransmitSpan", spec := "fnExactTransmitSpan", inPlace := ["math.Float64bits", "math.Float64frombits"], unfollowed := true, recurses := true, apart := false, narrowed := true }
def FnExactTransmitSpanUptoSaid : Prop := fnExactTransmitSpanUptoRow.holds Try.pinned (OpenSpec.upto fnExactTransmitSpanSpec)

end Rows
end Go.Proofs.Ytonmdkhfongmhaa
