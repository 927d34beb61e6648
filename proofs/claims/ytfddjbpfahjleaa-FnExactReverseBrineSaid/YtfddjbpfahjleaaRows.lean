/-
  No cell of these rows narrows 'for every input' (looked for: loops, veiled, ifaces, maps, wideKeys, modest, calm, conditions, laid).
  DERIVED. THE GIVEN ROWS OF THIS SEAT. 12 by the template 'for every input the law returns true; each argument reads behind the call as it read before'; 0 by the template 'total and deterministic' (their statements: YtfddjbpfahjleaaTotals.lean).
  GIVEN WITH THE SEED: the statements are not yours to turn. If you find one false, say at which input.
  Laid BY PROGRAM, IN A SANDBOX (cutbox-rows.mjs): the forced cells as the released guide's own fill.sh prints them over the translation 0e71465260d88fec… (all of the seat's roots in one cut). By AI agents, Wed Nov 11 2026. No macro, syntax, notation, axiom, sorry.
-/
import Derived.Test.YtfddjbpfahjleaaChecked
import GoSem.Claim
import GoSem.ClaimJoined
import GoSem.ClaimMapViews
import Derived.JoinedTies
import Derived.KernelRfl
namespace Go.Proofs.Ytfddjbpfahjleaa
/- THE CELL 'sum', in the pinned program and in every row, IS THE sha256 OF THE DUMP (.gsa) THAT YtfddjbpfahjleaaProg.lean LOADS. Nothing in Lean hashes anything: it is a label: what it is worth is what the hold of that sum in a sandbox is worth. -/
noncomputable def Try.pinned : Pinned := { name := "ytfddjbpfahjleaa", sum := "0e71465260d88fec3ff9d56472f82077ad34e77a4a27137b8e049c0427d6f570", checked := Try.checked }
namespace Rows
def none {H : Type} : Left H := { results := [], args := [] }

/-- 'laws.FnExactSaltiestCell': WHATEVER THE INPUT: true; the input reads as it did. -/
def fnExactSaltiestCellSpec : ChangeSpec := { name := "fnExactSaltiestCell", fn := fun _ => fun
  | [d] => { results := [.lit (.bool true)], args := [d] }
  | _ => none }
def fnExactSaltiestCellRow : OpenClaim := { program := "ytfddjbpfahjleaa", sum := "0e71465260d88fec3ff9d56472f82077ad34e77a4a27137b8e049c0427d6f570", func := "loop.example/g01288/laws.FnExactSaltiestCell", spec := "fnExactSaltiestCell", inPlace := ["math.Float64bits", "math.Float64frombits"], unfollowed := true, recurses := true, apart := false }
def FnExactSaltiestCellSaid : Prop := fnExactSaltiestCellRow.holds Try.pinned (OpenSpec.ofChange fnExactSaltiestCellSpec)

/-- ITS FALSE NEIGHBOUR: 'it returns false'. Refute it at one input. -/
def fnExactSaltiestCellWrong : ChangeSpec := { name := "fnExactSaltiestCell", fn := fun _ => fun
  | [d] => { results := [.lit (.bool false)], args := [d] }
  | _ => none }
def FnExactSaltiestCellWrongFalsely : Prop := fnExactSaltiestCellRow.holds Try.pinned (OpenSpec.ofChange fnExactSaltiestCellWrong)

/-- 'laws.FnExactSaltIn': WHATEVER THE INPUT: true; the input reads as it did. -/
def fnExactSaltInSpec : ChangeSpec := { name := "fnExactSaltIn", fn := fun _ => fun
  | [d] => { results := [.lit (.bool true)], args := [d] }
  | _ => none }
def fnExactSaltInRow : OpenClaim := { program := "ytfddjbpfahjleaa", sum := "0e71465260d88fec3ff9d56472f82077ad34e77a4a27137b8e049c0427d6f570", func := "loop.example/g01288/laws.FnExactSaltIn", spec := "fnExactSaltIn", unfollowed := true, recurses := true, apart := false }
def FnExactSaltInSaid : Prop := fnExactSaltInRow.holds Try.pinned (OpenSpec.ofChange fnExactSaltInSpec)

/-- ITS FALSE NEIGHBOUR: 'it returns false'. Refute it at one input. -/
def fnExactSaltInWrong : ChangeSpec := { name := "fnExactSaltIn", fn := fun _ => fun
  | [d] => { results := [.lit (.bool false)], args := [d] }
  | _ => none }
def FnExactSaltInWrongFalsely : Prop := fnExactSaltInRow.holds Try.pinned (OpenSpec.ofChange fnExactSaltInWrong)

/-- 'laws.FnExactIsSmallStep': WHATEVER THE INPUT: true; the input reads as it did. -/
def fnExactIsSmallStepSpec : ChangeSpec := { name := "fnExactIsSmallStep", fn := fun _ => fun
  | [d1, d2] => { results := [.lit (.bool true)], args := [d1, d2] }
  | _ => none }
def fnExactIsSmallStepRow : OpenClaim := { program := "ytfddjbpfahjleaa", sum := "0e71465260d88fec3ff9d56472f82077ad34e77a4a27137b8e049c0427d6f570", func := "loop.example/g01288/laws.FnExactIsSmallStep", spec := "fnExactIsSmallStep", unfollowed := true, recurses := true, apart := false }
def FnExactIsSmallStepSaid : Prop := fnExactIsSmallStepRow.holds Try.pinned (OpenSpec.ofChange fnExactIsSmallStepSpec)

/-- ITS FALSE NEIGHBOUR: 'it returns false'. Refute it at one input. -/
def fnExactIsSmallStepWrong : ChangeSpec := { name := "fnExactIsSmallStep", fn := fun _ => fun
  | [d1, d2] => { results := [.lit (.bool false)], args := [d1, d2] }
  | _ => none }
def FnExactIsSmallStepWrongFalsely : Prop := fnExactIsSmallStepRow.holds Try.pinned (OpenSpec.ofChange fnExactIsSmallStepWrong)

/-- 'laws.FnExactReverseBrine': WHATEVER THE INPUT: true; the input reads as it did. -/
def fnExactReverseBrineSpec : ChangeSpec := { name := "fnExactReverseBrine", fn := fun _ => fun
  | [d] => { results := [.lit (.bool true)], args := [d] }
  | _ => none }
def fnExactReverseBrineRow : OpenClaim := { program := "ytfddjbpfahjleaa", sum := "0e71465260d88fec3ff9d56472f82077ad34e77a4a27137b8e049c0427d6f570", func := "loop.example/g01288/laws.FnExactReverseBrine", spec := "fnExactReverseBrine", unfollowed := true, recurses := true, apart := false }
def FnExactReverseBrineSaid : Prop := fnExactReverseBrineRow.holds Try.pinned (OpenSpec.ofChange fnExactReverseBrineSpec)

/-- ITS FALSE NEIGHBOUR: 'it returns false'. Refute it at one input. -/
def fnExactReverseBrineWrong : ChangeSpec := { name := "fnExactReverseBrine", fn := fun _ => fun
  | [d] => { results := [.lit (.bool false)], args := [d] }
  | _ => none }
def FnExactReverseBrineWrongFalsely : Prop := fnExactReverseBrineRow.holds Try.pinned (OpenSpec.ofChange fnExactReverseBrineWrong)

/-- 'laws.FnExactGoesOut': WHATEVER THE INPUT: true; the input reads as it did. -/
def fnExactGoesOutSpec : ChangeSpec := { name := "fnExactGoesOut", fn := fun _ => fun
  | [d1, d2] => { results := [.lit (.bool true)], args := [d1, d2] }
  | _ => none }
def fnExactGoesOutRow : OpenClaim := { program := "ytfddjbpfahjleaa", sum := "0e71465260d88fec3ff9d56472f82077ad34e77a4a27137b8e049c0427d6f570", func := "loop.example/g01288/laws.FnExactGoesOut", spec := "fnExactGoesOut", unfollowed := true, recurses := true, apart := false }
def FnExactGoesOutSaid : Prop := fnExactGoesOutRow.holds Try.pinned (OpenSpec.ofChange fnExactGoesOutSpec)

/-- ITS FALSE NEIGHBOUR: 'it returns false'. Refute it at one input. -/
def fnExactGoesOutWrong : ChangeSpec := { name := "fnExactGoesOut", fn := fun _ => fun
  | [d1, d2] => { results := [.lit (.bool false)], args := [d1, d2] }
  | _ => none }
def FnExactGoesOutWrongFalsely : Prop := fnExactGoesOutRow.holds Try.pinned (OpenSpec.ofChange fnExactGoesOutWrong)

/-- 'laws.FnExactComesIn': WHATEVER THE INPUT: true; the input reads as it did. -/
def fnExactComesInSpec : ChangeSpec := { name := "fnExactComesIn", fn := fun _ => fun
  | [d1, d2] => { results := [.lit (.bool true)], args := [d1, d2] }
  | _ => none }
def fnExactComesInRow : OpenClaim := { program := "ytfddjbpfahjleaa", sum := "0e71465260d88fec3ff9d56472f82077ad34e77a4a27137b8e049c0427d6f570", func := "loop.example/g01288/laws.FnExactComesIn", spec := "fnExactComesIn", unfollowed := true, recurses := true, apart := false }
def FnExactComesInSaid : Prop := fnExactComesInRow.holds Try.pinned (OpenSpec.ofChange fnExactComesInSpec)

/-- ITS FALSE NEIGHBOUR: 'it returns false'. Refute it at one input. -/
def fnExactComesInWrong : ChangeSpec := { name := "fnExactComesIn", fn := fun _ => fun
  | [d1, d2] => { results := [.lit (.bool false)], args := [d1, d2] }
  | _ => none }
def FnExactComesInWrongFalsely : Prop := fnExactComesInRow.holds Try.pinned (OpenSpec.ofChange fnExactComesInWrong)

/-- 'laws.FnExactMixBrines': WHATEVER THE INPUT: true; the input reads as it did. -/
def fnExactMixBrinesSpec : ChangeSpec := { name := "fnExactMixBrines", fn := fun _ => fun
  | [d1, d2, d3] => { results := [.lit (.bool true)], args := [d1, d2, d3] }
  | _ => none }
def fnExactMixBrinesRow : OpenClaim := { program := "ytfddjbpfahjleaa", sum := "0e71465260d88fec3ff9d56472f82077ad34e77a4a27137b8e049c0427d6f570", func := "loop.example/g01288/laws.FnExactMixBrines", spec := "fnExactMixBrines", unfollowed := true, recurses := true, apart := false }
def FnExactMixBrinesSaid : Prop := fnExactMixBrinesRow.holds Try.pinned (OpenSpec.ofChange fnExactMixBrinesSpec)

/-- ITS FALSE NEIGHBOUR: 'it returns false'. Refute it at one input. -/
def fnExactMixBrinesWrong : ChangeSpec := { name := "fnExactMixBrines", fn := fun _ => fun
  | [d1, d2, d3] => { results := [.lit (.bool false)], args := [d1, d2, d3] }
  | _ => none }
def FnExactMixBrinesWrongFalsely : Prop := fnExactMixBrinesRow.holds Try.pinned (OpenSpec.ofChange fnExactMixBrinesWrong)

/-- 'laws.FnExactSafeStep': WHATEVER THE INPUT: true; the input reads as it did. -/
def fnExactSafeStepSpec : ChangeSpec := { name := "fnExactSafeStep", fn := fun _ => fun
  | [d] => { results := [.lit (.bool true)], args := [d] }
  | _ => none }
def fnExactSafeStepRow : OpenClaim := { program := "ytfddjbpfahjleaa", sum := "0e71465260d88fec3ff9d56472f82077ad34e77a4a27137b8e049c0427d6f570", func := "loop.example/g01288/laws.FnExactSafeStep", spec := "fnExactSafeStep", unfollowed := true, recurses := true, apart := false }
def FnExactSafeStepSaid : Prop := fnExactSafeStepRow.holds Try.pinned (OpenSpec.ofChange fnExactSafeStepSpec)

/-- ITS FALSE NEIGHBOUR: 'it returns false'. Refute it at one input. -/
def fnExactSafeStepWrong : ChangeSpec := { name := "fnExactSafeStep", fn := fun _ => fun
  | [d] => { results := [.lit (.bool false)], args := [d] }
  | _ => none }
def FnExactSafeStepWrongFalsely : Prop := fnExactSafeStepRow.holds Try.pinned (OpenSpec.ofChange fnExactSafeStepWrong)

/-- 'laws.FnExactDecaySalt': WHATEVER THE INPUT: true; the input reads as it did. -/
def fnExactDecaySaltSpec : ChangeSpec := { name := "fnExactDecaySalt", fn := fun _ => fun
  | [d1, d2, d3] => { results := [.lit (.bool true)], args := [d1, d2, d3] }
  | _ => none }
def fnExactDecaySaltRow : OpenClaim := { program := "ytfddjbpfahjleaa", sum := "0e71465260d88fec3ff9d56472f82077ad34e77a4a27137b8e049c0427d6f570", func := "loop.example/g01288/laws.FnExactDecaySalt", spec := "fnExactDecaySalt", unfollowed := true, recurses := true, apart := false }
def FnExactDecaySaltSaid : Prop := fnExactDecaySaltRow.holds Try.pinned (OpenSpec.ofChange fnExactDecaySaltSpec)

/-- ITS FALSE NEIGHBOUR: 'it returns false'. Refute it at one input. -/
def fnExactDecaySaltWrong : ChangeSpec := { name := "fnExactDecaySalt", fn := fun _ => fun
  | [d1, d2, d3] => { results := [.lit (.bool false)], args := [d1, d2, d3] }
  | _ => none }
def FnExactDecaySaltWrongFalsely : Prop := fnExactDecaySaltRow.holds Try.pinned (OpenSpec.ofChange fnExactDecaySaltWrong)

/-- 'laws.FnExactStepsUntil': WHATEVER THE INPUT: true; the input reads as it did. -/
def fnExactStepsUntilSpec : ChangeSpec := { name := "fnExactStepsUntil", fn := fun _ => fun
  | [d1, d2, d3, d4, d5] => { results := [.lit (.bool true)], args := [d1, d2, d3, d4, d5] }
  | _ => none }
def fnExactStepsUntilRow : OpenClaim := { program := "ytfddjbpfahjleaa", sum := "0e71465260d88fec3ff9d56472f82077ad34e77a4a27137b8e049c0427d6f570", func := "loop.example/g01288/laws.FnExactStepsUntil", spec := "fnExactStepsUntil", unfollowed := true, recurses := true, apart := false }
def FnExactStepsUntilSaid : Prop := fnExactStepsUntilRow.holds Try.pinned (OpenSpec.ofChange fnExactStepsUntilSpec)

/-- ITS FALSE NEIGHBOUR: 'it returns false'. Refute it at one input. -/
def fnExactStepsUntilWrong : ChangeSpec := { name := "fnExactStepsUntil", fn := fun _ => fun
  | [d1, d2, d3, d4, d5] => { results := [.lit (.bool false)], args := [d1, d2, d3, d4, d5] }
  | _ => none }
def FnExactStepsUntilWrongFalsely : Prop := fnExactStepsUntilRow.holds Try.pinned (OpenSpec.ofChange fnExactStepsUntilWrong)

/-- 'laws.FnExactMoveSalt': WHATEVER THE INPUT: true; the input reads as it did. -/
def fnExactMoveSaltSpec : ChangeSpec := { name := "fnExactMoveSalt", fn := fun _ => fun
  | [d1, d2] => { results := [.lit (.bool true)], args := [d1, d2] }
  | _ => none }
def fnExactMoveSaltRow : OpenClaim := { program := "ytfddjbpfahjleaa", sum := "0e71465260d88fec3ff9d56472f82077ad34e77a4a27137b8e049c0427d6f570", func := "loop.example/g01288/laws.FnExactMoveSalt", spec := "fnExactMoveSalt", unfollowed := true, recurses := true, apart := false }
def FnExactMoveSaltSaid : Prop := fnExactMoveSaltRow.holds Try.pinned (OpenSpec.ofChange fnExactMoveSaltSpec)

/-- ITS FALSE NEIGHBOUR: 'it returns false'. Refute it at one input. -/
def fnExactMoveSaltWrong : ChangeSpec := { name := "fnExactMoveSalt", fn := fun _ => fun
  | [d1, d2] => { results := [.lit (.bool false)], args := [d1, d2] }
  | _ => none }
def FnExactMoveSaltWrongFalsely : Prop := fnExactMoveSaltRow.holds Try.pinned (OpenSpec.ofChange fnExactMoveSaltWrong)

/-- 'laws.FnExactMoveTimes': WHATEVER THE INPUT: true; the input reads as it did. -/
def fnExactMoveTimesSpec : ChangeSpec := { name := "fnExactMoveTimes", fn := fun _ => fun
  | [d1, d2, d3] => { results := [.lit (.bool true)], args := [d1, d2, d3] }
  | _ => none }
def fnExactMoveTimesRow : OpenClaim := { program := "ytfddjbpfahjleaa", sum := "0e71465260d88fec3ff9d56472f82077ad34e77a4a27137b8e049c0427d6f570", func := "loop.example/g01288/laws.FnExactMoveTimes", spec := "fnExactMoveTimes", unfollowed := true, recurses := true, apart := false }
def FnExactMoveTimesSaid : Prop := fnExactMoveTimesRow.holds Try.pinned (OpenSpec.ofChange fnExactMoveTimesSpec)

/-- ITS FALSE NEIGHBOUR: 'it returns false'. Refute it at one input. -/
def fnExactMoveTimesWrong : ChangeSpec := { name := "fnExactMoveTimes", fn := fun _ => fun
  | [d1, d2, d3] => { results := [.lit (.bool false)], args := [d1, d2, d3] }
  | _ => none }
def FnExactMoveTimesWrongFalsely : Prop := fnExactMoveTimesRow.holds Try.pinned (OpenSpec.ofChange fnExactMoveTimesWrong)

/- THE SECOND FORM. 'bulk': how many values and letters a reading holds, each counted each time it is reached (what is shared counts as often as it is met; a slice's spare places count too). A statement '..UptoSaid' is the law's where the arguments, and the package variables that the reading takes, are together of bulk at most 1048576: NARROWER than '..Said'. Prove '..Said' where nothing that the law and all that it calls make is longer than what came in: it says more and counts as full. Else prove '..UptoSaid'. A law counts once. -/
mutual
def uptoBulk {H : Type} : DataW H → Nat
  | .lit (.string bytes) => bytes.length + 1
  | .lit _ => 1
  | .nil => 1
  | .ptr d => uptoBulk d + 1
  | .slice elems spare => uptoBulkAll elems + uptoBulkAll spare + 1
  | .agg parts => uptoBulkAll parts + 1
  | .iface _ d => uptoBulk d + 1
  | .map entries => uptoBulkEntries entries + 1
  | .held _ => 1
def uptoBulkAll {H : Type} : List (DataW H) → Nat
  | [] => 0
  | d :: r => uptoBulk d + uptoBulkAll r
def uptoBulkEntries {H : Type} : List (Lit × DataW H) → Nat
  | [] => 0
  | x :: r => uptoBulkEntry x + uptoBulkEntries r
def uptoBulkEntry {H : Type} : Lit × DataW H → Nat
  | (.string bytes, d) => bytes.length + uptoBulk d + 1
  | (_, d) => uptoBulk d + 1
 end
def uptoSmall : (H : Type) → List (DataW H) → Bool := fun _ ds => decide (uptoBulkAll ds ≤ 1048576)
def OpenSpec.upto (s : _root_.Go.ChangeSpec) : _root_.Go.OpenSpec := { _root_.Go.OpenSpec.ofChange s with cond := some uptoSmall }

/-- 'laws.FnExactSaltiestCell', WHERE WHAT IT READS IS OF BULK AT MOST 1048576: true; the input reads as it did. -/
def fnExactSaltiestCellUptoRow : OpenClaim := { program := "ytfddjbpfahjleaa", sum := "0e71465260d88fec3ff9d56472f82077ad34e77a4a27137b8e049c0427d6f570", func := "loop.example/g01288/laws.FnExactSaltiestCell", spec := "fnExactSaltiestCell", inPlace := ["math.Float64bits", "math.Float64frombits"], unfollowed := true, recurses := true, apart := false, narrowed := true }
def FnExactSaltiestCellUptoSaid : Prop := fnExactSaltiestCellUptoRow.holds Try.pinned (OpenSpec.upto fnExactSaltiestCellSpec)

/-- 'laws.FnExactSaltIn', WHERE WHAT IT READS IS OF BULK AT MOST 1048576: true; the input reads as it did. -/
def fnExactSaltInUptoRow : OpenClaim := { program := "ytfddjbpfahjleaa", sum := "0e71465260d88fec3ff9d56472f82077ad34e77a4a27137b8e049c0427d6f570", func := "loop.example/g01288/laws.FnExactSaltIn", spec := "fnExactSaltIn", unfollowed := true, recurses := true, apart := false, narrowed := true }
def FnExactSaltInUptoSaid : Prop := fnExactSaltInUptoRow.holds Try.pinned (OpenSpec.upto fnExactSaltInSpec)

/-- 'laws.FnExactIsSmallStep', WHERE WHAT IT READS IS OF BULK AT MOST 1048576: true; the input reads as it did. -/
def fnExactIsSmallStepUptoRow : OpenClaim := { program := "ytfddjbpfahjleaa", sum := "0e71465260d88fec3ff9d56472f82077ad34e77a4a27137b8e049c0427d6f570", func := "loop.example/g01288/laws.FnExactIsSmallStep", spec := "fnExactIsSmallStep", unfollowed := true, recurses := true, apart := false, narrowed := true }
def FnExactIsSmallStepUptoSaid : Prop := fnExactIsSmallStepUptoRow.holds Try.pinned (OpenSpec.upto fnExactIsSmallStepSpec)

/-- 'laws.FnExactReverseBrine', WHERE WHAT IT READS IS OF BULK AT MOST 1048576: true; the input reads as it did. -/
def fnExactReverseBrineUptoRow : OpenClaim := { program := "ytfddjbpfahjleaa", sum := "0e71465260d88fec3ff9d56472f82077ad34e77a4a27137b8e049c0427d6f570", func := "loop.example/g01288/laws.FnExactReverseBrine", spec := "fnExactReverseBrine", unfollowed := true, recurses := true, apart := false, narrowed := true }
def FnExactReverseBrineUptoSaid : Prop := fnExactReverseBrineUptoRow.holds Try.pinned (OpenSpec.upto fnExactReverseBrineSpec)

/-- 'laws.FnExactGoesOut', WHERE WHAT IT READS IS OF BULK AT MOST 1048576: true; the input reads as it did. -/
def fnExactGoesOutUptoRow : OpenClaim := { program := "ytfddjbpfahjleaa", sum := "0e71465260d88fec3ff9d56472f82077ad34e77a4a27137b8e049c0427d6f570", func := "loop.example/g01288/laws.FnExactGoesOut", spec := "fnExactGoesOut", unfollowed := true, recurses := true, apart := false, narrowed := true }
def FnExactGoesOutUptoSaid : Prop := fnExactGoesOutUptoRow.holds Try.pinned (OpenSpec.upto fnExactGoesOutSpec)

/-- 'laws.FnExactComesIn', WHERE WHAT IT READS IS OF BULK AT MOST 1048576: true; the input reads as it did. -/
def fnExactComesInUptoRow : OpenClaim := { program := "ytfddjbpfahjleaa", sum := "0e71465260d88fec3ff9d56472f82077ad34e77a4a27137b8e049c0427d6f570", func := "loop.example/g01288/laws.FnExactComesIn", spec := "fnExactComesIn", unfollowed := true, recurses := true, apart := false, narrowed := true }
def FnExactComesInUptoSaid : Prop := fnExactComesInUptoRow.holds Try.pinned (OpenSpec.upto fnExactComesInSpec)

/-- 'laws.FnExactMixBrines', WHERE WHAT IT READS IS OF BULK AT MOST 1048576: true; the input reads as it did. -/
def fnExactMixBrinesUptoRow : OpenClaim := { program := "ytfddjbpfahjleaa", sum := "0e71465260d88fec3ff9d56472f82077ad34e77a4a27137b8e049c0427d6f570", func := "loop.example/g01288/laws.FnExactMixBrines", spec := "fnExactMixBrines", unfollowed := true, recurses := true, apart := false, narrowed := true }
def FnExactMixBrinesUptoSaid : Prop := fnExactMixBrinesUptoRow.holds Try.pinned (OpenSpec.upto fnExactMixBrinesSpec)

/-- 'laws.FnExactSafeStep', WHERE WHAT IT READS IS OF BULK AT MOST 1048576: true; the input reads as it did. -/
def fnExactSafeStepUptoRow : OpenClaim := { program := "ytfddjbpfahjleaa", sum := "0e71465260d88fec3ff9d56472f82077ad34e77a4a27137b8e049c0427d6f570", func := "loop.example/g01288/laws.FnExactSafeStep", spec := "fnExactSafeStep", unfollowed := true, recurses := true, apart := false, narrowed := true }
def FnExactSafeStepUptoSaid : Prop := fnExactSafeStepUptoRow.holds Try.pinned (OpenSpec.upto fnExactSafeStepSpec)

/-- 'laws.FnExactDecaySalt', WHERE WHAT IT READS IS OF BULK AT MOST 1048576: true; the input reads as it did. -/
def fnExactDecaySaltUptoRow : OpenClaim := { program := "ytfddjbpfahjleaa", sum := "0e71465260d88fec3ff9d56472f82077ad34e77a4a27137b8e049c0427d6f570", func := "loop.example/g01288/laws.FnExactDecaySalt", spec := "fnExactDecaySalt", unfollowed := true, recurses := true, apart := false, narrowed := true }
def FnExactDecaySaltUptoSaid : Prop := fnExactDecaySaltUptoRow.holds Try.pinned (OpenSpec.upto fnExactDecaySaltSpec)

/-- 'laws.FnExactStepsUntil', WHERE WHAT IT READS IS OF BULK AT MOST 1048576: true; the input reads as it did. -/
def fnExactStepsUntilUptoRow : OpenClaim := { program := "ytfddjbpfahjleaa", sum := "0e71465260d88fec3ff9d56472f82077ad34e77a4a27137b8e049c0427d6f570", func := "loop.example/g01288/laws.FnExactStepsUntil", spec := "fnExactStepsUntil", unfollowed := true, recurses := true, apart := false, narrowed := true }
def FnExactStepsUntilUptoSaid : Prop := fnExactStepsUntilUptoRow.holds Try.pinned (OpenSpec.upto fnExactStepsUntilSpec)

/-- 'laws.FnExactMoveSalt', WHERE WHAT IT READS IS OF BULK AT MOST 1048576: true; the input reads as it did. -/
def fnExactMoveSaltUptoRow : OpenClaim := { program := "ytfddjbpfahjleaa", sum := "0e71465260d88fec3ff9d56472f82077ad34e77a4a27137b8e049c0427d6f570", func := "loop.example/g01288/laws.FnExactMoveSalt", spec := "fnExactMoveSalt", unfollowed := true, recurses := true, apart := false, narrowed := true }
def FnExactMoveSaltUptoSaid : Prop := fnExactMoveSaltUptoRow.holds Try.pinned (OpenSpec.upto fnExactMoveSaltSpec)

/-- 'laws.FnExactMoveTimes', WHERE WHAT IT READS IS OF BULK AT MOST 1048576: true; the input reads as it did. -/
def fnExactMoveTimesUptoRow : OpenClaim := { program := "ytfddjbpfahjleaa", sum := "0e71465260d88fec3ff9d56472f82077ad34e77a4a27137b8e049c0427d6f570", func := "loop.example/g01288/laws.FnExactMoveTimes", spec := "fnExactMoveTimes", unfollowed := true, recurses := true, apart := false, narrowed := true }
def FnExactMoveTimesUptoSaid : Prop := fnExactMoveTimesUptoRow.holds Try.pinned (OpenSpec.upto fnExactMoveTimesSpec)

end Rows
end Go.Proofs.Ytfddjbpfahjleaa
