/-
  No cell of these rows narrows 'for every input' (looked for: loops, veiled, ifaces, maps, wideKeys, modest, calm, conditions, laid).
  DERIVED. THE GIVEN ROWS OF THIS SEAT. 12 by the template 'for every input the law returns true; each argument reads behind the call as it read before'; 0 by the template 'total and deterministic' (their statements: YtllblebicdeieaaTotals.lean).
  GIVEN WITH THE SEED: the statements are not yours to turn. If you find one false, say at which input.
  Laid BY PROGRAM, IN A SANDBOX (cutbox-rows.mjs): the forced cells as the released guide's own fill.sh prints them over the translation bc87985a7962da0d… (all of the seat's roots in one cut). By AI agents, Wed Nov 11 2026. No macro, syntax, notation, axiom, sorry.
-/
import Derived.Test.YtllblebicdeieaaChecked
import GoSem.Claim
import GoSem.ClaimJoined
import GoSem.ClaimMapViews
import Derived.JoinedTies
import Derived.KernelRfl
namespace Go.Proofs.Ytllblebicdeieaa
/- THE CELL 'sum', in the pinned program and in every row, IS THE sha256 OF THE DUMP (.gsa) THAT YtllblebicdeieaaProg.lean LOADS. Nothing in Lean hashes anything: it is a label: what it is worth is what the hold of that sum in a sandbox is worth. -/
noncomputable def Try.pinned : Pinned := { name := "ytllblebicdeieaa", sum := "bc87985a7962da0dab7a0eeb6ccf071f1956a51ea2b16610b499270892d107f2", checked := Try.checked }
namespace Rows
def none {H : Type} : Left H := { results := [], args := [] }

/-- 'laws.FnExactBalancesOf': WHATEVER THE INPUT: true; the input reads as it did. -/
def fnExactBalancesOfSpec : ChangeSpec := { name := "fnExactBalancesOf", fn := fun _ => fun
  | [d] => { results := [.lit (.bool true)], args := [d] }
  | _ => none }
def fnExactBalancesOfRow : OpenClaim := { program := "ytllblebicdeieaa", sum := "bc87985a7962da0dab7a0eeb6ccf071f1956a51ea2b16610b499270892d107f2", func := "loop.example/g01288/laws.FnExactBalancesOf", spec := "fnExactBalancesOf", unfollowed := true, recurses := true, apart := false }
def FnExactBalancesOfSaid : Prop := fnExactBalancesOfRow.holds Try.pinned (OpenSpec.ofChange fnExactBalancesOfSpec)

/-- ITS FALSE NEIGHBOUR: 'it returns false'. Refute it at one input. -/
def fnExactBalancesOfWrong : ChangeSpec := { name := "fnExactBalancesOf", fn := fun _ => fun
  | [d] => { results := [.lit (.bool false)], args := [d] }
  | _ => none }
def FnExactBalancesOfWrongFalsely : Prop := fnExactBalancesOfRow.holds Try.pinned (OpenSpec.ofChange fnExactBalancesOfWrong)

/-- 'laws.FnExactIsStill': WHATEVER THE INPUT: true; the input reads as it did. -/
def fnExactIsStillSpec : ChangeSpec := { name := "fnExactIsStill", fn := fun _ => fun
  | [d1, d2] => { results := [.lit (.bool true)], args := [d1, d2] }
  | _ => none }
def fnExactIsStillRow : OpenClaim := { program := "ytllblebicdeieaa", sum := "bc87985a7962da0dab7a0eeb6ccf071f1956a51ea2b16610b499270892d107f2", func := "loop.example/g01288/laws.FnExactIsStill", spec := "fnExactIsStill", inPlace := ["math.Float64bits", "math.Float64frombits"], unfollowed := true, recurses := true, apart := false }
def FnExactIsStillSaid : Prop := fnExactIsStillRow.holds Try.pinned (OpenSpec.ofChange fnExactIsStillSpec)

/-- ITS FALSE NEIGHBOUR: 'it returns false'. Refute it at one input. -/
def fnExactIsStillWrong : ChangeSpec := { name := "fnExactIsStill", fn := fun _ => fun
  | [d1, d2] => { results := [.lit (.bool false)], args := [d1, d2] }
  | _ => none }
def FnExactIsStillWrongFalsely : Prop := fnExactIsStillRow.holds Try.pinned (OpenSpec.ofChange fnExactIsStillWrong)

/-- 'laws.FnExactWaterPath': WHATEVER THE INPUT: true; the input reads as it did. -/
def fnExactWaterPathSpec : ChangeSpec := { name := "fnExactWaterPath", fn := fun _ => fun
  | [d1, d2] => { results := [.lit (.bool true)], args := [d1, d2] }
  | _ => none }
def fnExactWaterPathRow : OpenClaim := { program := "ytllblebicdeieaa", sum := "bc87985a7962da0dab7a0eeb6ccf071f1956a51ea2b16610b499270892d107f2", func := "loop.example/g01288/laws.FnExactWaterPath", spec := "fnExactWaterPath", unfollowed := true, recurses := true, apart := false }
def FnExactWaterPathSaid : Prop := fnExactWaterPathRow.holds Try.pinned (OpenSpec.ofChange fnExactWaterPathSpec)

/-- ITS FALSE NEIGHBOUR: 'it returns false'. Refute it at one input. -/
def fnExactWaterPathWrong : ChangeSpec := { name := "fnExactWaterPath", fn := fun _ => fun
  | [d1, d2] => { results := [.lit (.bool false)], args := [d1, d2] }
  | _ => none }
def FnExactWaterPathWrongFalsely : Prop := fnExactWaterPathRow.holds Try.pinned (OpenSpec.ofChange fnExactWaterPathWrong)

/-- 'laws.FnExactBasinOf': WHATEVER THE INPUT: true; the input reads as it did. -/
def fnExactBasinOfSpec : ChangeSpec := { name := "fnExactBasinOf", fn := fun _ => fun
  | [d1, d2] => { results := [.lit (.bool true)], args := [d1, d2] }
  | _ => none }
def fnExactBasinOfRow : OpenClaim := { program := "ytllblebicdeieaa", sum := "bc87985a7962da0dab7a0eeb6ccf071f1956a51ea2b16610b499270892d107f2", func := "loop.example/g01288/laws.FnExactBasinOf", spec := "fnExactBasinOf", unfollowed := true, recurses := true, apart := false }
def FnExactBasinOfSaid : Prop := fnExactBasinOfRow.holds Try.pinned (OpenSpec.ofChange fnExactBasinOfSpec)

/-- ITS FALSE NEIGHBOUR: 'it returns false'. Refute it at one input. -/
def fnExactBasinOfWrong : ChangeSpec := { name := "fnExactBasinOf", fn := fun _ => fun
  | [d1, d2] => { results := [.lit (.bool false)], args := [d1, d2] }
  | _ => none }
def FnExactBasinOfWrongFalsely : Prop := fnExactBasinOfRow.holds Try.pinned (OpenSpec.ofChange fnExactBasinOfWrong)

/-- 'laws.FnExactWorstBalance': WHATEVER THE INPUT: true; the input reads as it did. -/
def fnExactWorstBalanceSpec : ChangeSpec := { name := "fnExactWorstBalance", fn := fun _ => fun
  | [d] => { results := [.lit (.bool true)], args := [d] }
  | _ => none }
def fnExactWorstBalanceRow : OpenClaim := { program := "ytllblebicdeieaa", sum := "bc87985a7962da0dab7a0eeb6ccf071f1956a51ea2b16610b499270892d107f2", func := "loop.example/g01288/laws.FnExactWorstBalance", spec := "fnExactWorstBalance", inPlace := ["math.Float64bits", "math.Float64frombits"], unfollowed := true, recurses := true, apart := false }
def FnExactWorstBalanceSaid : Prop := fnExactWorstBalanceRow.holds Try.pinned (OpenSpec.ofChange fnExactWorstBalanceSpec)

/-- ITS FALSE NEIGHBOUR: 'it returns false'. Refute it at one input. -/
def fnExactWorstBalanceWrong : ChangeSpec := { name := "fnExactWorstBalance", fn := fun _ => fun
  | [d] => { results := [.lit (.bool false)], args := [d] }
  | _ => none }
def FnExactWorstBalanceWrongFalsely : Prop := fnExactWorstBalanceRow.holds Try.pinned (OpenSpec.ofChange fnExactWorstBalanceWrong)

/-- 'laws.FnExactLeakOf': WHATEVER THE INPUT: true; the input reads as it did. -/
def fnExactLeakOfSpec : ChangeSpec := { name := "fnExactLeakOf", fn := fun _ => fun
  | [d] => { results := [.lit (.bool true)], args := [d] }
  | _ => none }
def fnExactLeakOfRow : OpenClaim := { program := "ytllblebicdeieaa", sum := "bc87985a7962da0dab7a0eeb6ccf071f1956a51ea2b16610b499270892d107f2", func := "loop.example/g01288/laws.FnExactLeakOf", spec := "fnExactLeakOf", unfollowed := true, recurses := true, apart := false }
def FnExactLeakOfSaid : Prop := fnExactLeakOfRow.holds Try.pinned (OpenSpec.ofChange fnExactLeakOfSpec)

/-- ITS FALSE NEIGHBOUR: 'it returns false'. Refute it at one input. -/
def fnExactLeakOfWrong : ChangeSpec := { name := "fnExactLeakOf", fn := fun _ => fun
  | [d] => { results := [.lit (.bool false)], args := [d] }
  | _ => none }
def FnExactLeakOfWrongFalsely : Prop := fnExactLeakOfRow.holds Try.pinned (OpenSpec.ofChange fnExactLeakOfWrong)

/-- 'laws.FnExactStepAtOnce': WHATEVER THE INPUT: true; the input reads as it did. -/
def fnExactStepAtOnceSpec : ChangeSpec := { name := "fnExactStepAtOnce", fn := fun _ => fun
  | [d] => { results := [.lit (.bool true)], args := [d] }
  | _ => none }
def fnExactStepAtOnceRow : OpenClaim := { program := "ytllblebicdeieaa", sum := "bc87985a7962da0dab7a0eeb6ccf071f1956a51ea2b16610b499270892d107f2", func := "loop.example/g01288/laws.FnExactStepAtOnce", spec := "fnExactStepAtOnce", inPlace := ["math.Float64bits", "math.Float64frombits"], unfollowed := true, recurses := true, apart := false }
def FnExactStepAtOnceSaid : Prop := fnExactStepAtOnceRow.holds Try.pinned (OpenSpec.ofChange fnExactStepAtOnceSpec)

/-- ITS FALSE NEIGHBOUR: 'it returns false'. Refute it at one input. -/
def fnExactStepAtOnceWrong : ChangeSpec := { name := "fnExactStepAtOnce", fn := fun _ => fun
  | [d] => { results := [.lit (.bool false)], args := [d] }
  | _ => none }
def FnExactStepAtOnceWrongFalsely : Prop := fnExactStepAtOnceRow.holds Try.pinned (OpenSpec.ofChange fnExactStepAtOnceWrong)

/-- 'laws.FnExactSweepInOrder': WHATEVER THE INPUT: true; the input reads as it did. -/
def fnExactSweepInOrderSpec : ChangeSpec := { name := "fnExactSweepInOrder", fn := fun _ => fun
  | [d] => { results := [.lit (.bool true)], args := [d] }
  | _ => none }
def fnExactSweepInOrderRow : OpenClaim := { program := "ytllblebicdeieaa", sum := "bc87985a7962da0dab7a0eeb6ccf071f1956a51ea2b16610b499270892d107f2", func := "loop.example/g01288/laws.FnExactSweepInOrder", spec := "fnExactSweepInOrder", inPlace := ["math.Float64bits", "math.Float64frombits"], unfollowed := true, recurses := true, apart := false }
def FnExactSweepInOrderSaid : Prop := fnExactSweepInOrderRow.holds Try.pinned (OpenSpec.ofChange fnExactSweepInOrderSpec)

/-- ITS FALSE NEIGHBOUR: 'it returns false'. Refute it at one input. -/
def fnExactSweepInOrderWrong : ChangeSpec := { name := "fnExactSweepInOrder", fn := fun _ => fun
  | [d] => { results := [.lit (.bool false)], args := [d] }
  | _ => none }
def FnExactSweepInOrderWrongFalsely : Prop := fnExactSweepInOrderRow.holds Try.pinned (OpenSpec.ofChange fnExactSweepInOrderWrong)

/-- 'laws.FnExactRelaxedSweep': WHATEVER THE INPUT: true; the input reads as it did. -/
def fnExactRelaxedSweepSpec : ChangeSpec := { name := "fnExactRelaxedSweep", fn := fun _ => fun
  | [d1, d2] => { results := [.lit (.bool true)], args := [d1, d2] }
  | _ => none }
def fnExactRelaxedSweepRow : OpenClaim := { program := "ytllblebicdeieaa", sum := "bc87985a7962da0dab7a0eeb6ccf071f1956a51ea2b16610b499270892d107f2", func := "loop.example/g01288/laws.FnExactRelaxedSweep", spec := "fnExactRelaxedSweep", inPlace := ["math.Float64bits", "math.Float64frombits"], unfollowed := true, recurses := true, apart := false }
def FnExactRelaxedSweepSaid : Prop := fnExactRelaxedSweepRow.holds Try.pinned (OpenSpec.ofChange fnExactRelaxedSweepSpec)

/-- ITS FALSE NEIGHBOUR: 'it returns false'. Refute it at one input. -/
def fnExactRelaxedSweepWrong : ChangeSpec := { name := "fnExactRelaxedSweep", fn := fun _ => fun
  | [d1, d2] => { results := [.lit (.bool false)], args := [d1, d2] }
  | _ => none }
def FnExactRelaxedSweepWrongFalsely : Prop := fnExactRelaxedSweepRow.holds Try.pinned (OpenSpec.ofChange fnExactRelaxedSweepWrong)

/-- 'laws.FnExactSweepColour': WHATEVER THE INPUT: true; the input reads as it did. -/
def fnExactSweepColourSpec : ChangeSpec := { name := "fnExactSweepColour", fn := fun _ => fun
  | [d1, d2] => { results := [.lit (.bool true)], args := [d1, d2] }
  | _ => none }
def fnExactSweepColourRow : OpenClaim := { program := "ytllblebicdeieaa", sum := "bc87985a7962da0dab7a0eeb6ccf071f1956a51ea2b16610b499270892d107f2", func := "loop.example/g01288/laws.FnExactSweepColour", spec := "fnExactSweepColour", inPlace := ["math.Float64bits", "math.Float64frombits"], unfollowed := true, recurses := true, apart := false }
def FnExactSweepColourSaid : Prop := fnExactSweepColourRow.holds Try.pinned (OpenSpec.ofChange fnExactSweepColourSpec)

/-- ITS FALSE NEIGHBOUR: 'it returns false'. Refute it at one input. -/
def fnExactSweepColourWrong : ChangeSpec := { name := "fnExactSweepColour", fn := fun _ => fun
  | [d1, d2] => { results := [.lit (.bool false)], args := [d1, d2] }
  | _ => none }
def FnExactSweepColourWrongFalsely : Prop := fnExactSweepColourRow.holds Try.pinned (OpenSpec.ofChange fnExactSweepColourWrong)

/-- 'laws.FnExactSettleGround': WHATEVER THE INPUT: true; the input reads as it did. -/
def fnExactSettleGroundSpec : ChangeSpec := { name := "fnExactSettleGround", fn := fun _ => fun
  | [d1, d2, d3] => { results := [.lit (.bool true)], args := [d1, d2, d3] }
  | _ => none }
def fnExactSettleGroundRow : OpenClaim := { program := "ytllblebicdeieaa", sum := "bc87985a7962da0dab7a0eeb6ccf071f1956a51ea2b16610b499270892d107f2", func := "loop.example/g01288/laws.FnExactSettleGround", spec := "fnExactSettleGround", inPlace := ["math.Float64bits", "math.Float64frombits"], unfollowed := true, recurses := true, apart := false }
def FnExactSettleGroundSaid : Prop := fnExactSettleGroundRow.holds Try.pinned (OpenSpec.ofChange fnExactSettleGroundSpec)

/-- ITS FALSE NEIGHBOUR: 'it returns false'. Refute it at one input. -/
def fnExactSettleGroundWrong : ChangeSpec := { name := "fnExactSettleGround", fn := fun _ => fun
  | [d1, d2, d3] => { results := [.lit (.bool false)], args := [d1, d2, d3] }
  | _ => none }
def FnExactSettleGroundWrongFalsely : Prop := fnExactSettleGroundRow.holds Try.pinned (OpenSpec.ofChange fnExactSettleGroundWrong)

/-- 'laws.FnExactSweepBoth': WHATEVER THE INPUT: true; the input reads as it did. -/
def fnExactSweepBothSpec : ChangeSpec := { name := "fnExactSweepBoth", fn := fun _ => fun
  | [d] => { results := [.lit (.bool true)], args := [d] }
  | _ => none }
def fnExactSweepBothRow : OpenClaim := { program := "ytllblebicdeieaa", sum := "bc87985a7962da0dab7a0eeb6ccf071f1956a51ea2b16610b499270892d107f2", func := "loop.example/g01288/laws.FnExactSweepBoth", spec := "fnExactSweepBoth", inPlace := ["math.Float64bits", "math.Float64frombits"], unfollowed := true, recurses := true, apart := false }
def FnExactSweepBothSaid : Prop := fnExactSweepBothRow.holds Try.pinned (OpenSpec.ofChange fnExactSweepBothSpec)

/-- ITS FALSE NEIGHBOUR: 'it returns false'. Refute it at one input. -/
def fnExactSweepBothWrong : ChangeSpec := { name := "fnExactSweepBoth", fn := fun _ => fun
  | [d] => { results := [.lit (.bool false)], args := [d] }
  | _ => none }
def FnExactSweepBothWrongFalsely : Prop := fnExactSweepBothRow.holds Try.pinned (OpenSpec.ofChange fnExactSweepBothWrong)

/- THE SECOND FORM. 'bulk': how many values and letters a reading holds, each counted each time it is reached (what is shared counts as often as it is met; a slice's spare places count too). A statement '..UptoSaid' is the law's where the arguments, and the package variables that the reading takes, are together of bulk at most 1048576: NARROWER than '..Said'. Prove '..Said' where nothing that the law and all that it calls make is longer than what came in: it says more and counts as full. Else prove '..UptoSaid'. A law counts once. -/
mutual
def uptoBulk {H : Type} : DataW H → Nat
  | .lit (.string bytes) => bytes.length + 1
  | .lit _ => 1
  | .nil => 1
  | .ptr d => uptoBulk d + 1
  | .slice elems spare => uptoBulkAll elems + uptoBulkAll spare + 1
  | .agg parts => uptoBulkAll parts + 1
  | .iface _ d => uptoBulk d + 1
  | .map entries => uptoBulkEntries entries + 1
  | .held _ => 1
def uptoBulkAll {H : Type} : List (DataW H) → Nat
  | [] => 0
  | d :: r => uptoBulk d + uptoBulkAll r
def uptoBulkEntries {H : Type} : List (Lit × DataW H) → Nat
  | [] => 0
  | x :: r => uptoBulkEntry x + uptoBulkEntries r
def uptoBulkEntry {H : Type} : Lit × DataW H → Nat
  | (.string bytes, d) => bytes.length + uptoBulk d + 1
  | (_, d) => uptoBulk d + 1
 end
def uptoSmall : (H : Type) → List (DataW H) → Bool := fun _ ds => decide (uptoBulkAll ds ≤ 1048576)
def OpenSpec.upto (s : _root_.Go.ChangeSpec) : _root_.Go.OpenSpec := { _root_.Go.OpenSpec.ofChange s with cond := some uptoSmall }

/-- 'laws.FnExactBalancesOf', WHERE WHAT IT READS IS OF BULK AT MOST 1048576: true; the input reads as it did. -/
def fnExactBalancesOfUptoRow : OpenClaim := { program := "ytllblebicdeieaa", sum := "bc87985a7962da0dab7a0eeb6ccf071f1956a51ea2b16610b499270892d107f2", func := "loop.example/g01288/laws.FnExactBalancesOf", spec := "fnExactBalancesOf", unfollowed := true, recurses := true, apart := false, narrowed := true }
def FnExactBalancesOfUptoSaid : Prop := fnExactBalancesOfUptoRow.holds Try.pinned (OpenSpec.upto fnExactBalancesOfSpec)

/-- 'laws.FnExactIsStill', WHERE WHAT IT READS IS OF BULK AT MOST 1048576: true; the input reads as it did. -/
def fnExactIsStillUptoRow : OpenClaim := { program := "ytllblebicdeieaa", sum := "bc87985a7962da0dab7a0eeb6ccf071f1956a51ea2b16610b499270892d107f2", func := "loop.example/g01288/laws.FnExactIsStill", spec := "fnExactIsStill", inPlace := ["math.Float64bits", "math.Float64frombits"], unfollowed := true, recurses := true, apart := false, narrowed := true }
def FnExactIsStillUptoSaid : Prop := fnExactIsStillUptoRow.holds Try.pinned (OpenSpec.upto fnExactIsStillSpec)

/-- 'laws.FnExactWaterPath', WHERE WHAT IT READS IS OF BULK AT MOST 1048576: true; the input reads as it did. -/
def fnExactWaterPathUptoRow : OpenClaim := { program := "ytllblebicdeieaa", sum := "bc87985a7962da0dab7a0eeb6ccf071f1956a51ea2b16610b499270892d107f2", func := "loop.example/g01288/laws.FnExactWaterPath", spec := "fnExactWaterPath", unfollowed := true, recurses := true, apart := false, narrowed := true }
def FnExactWaterPathUptoSaid : Prop := fnExactWaterPathUptoRow.holds Try.pinned (OpenSpec.upto fnExactWaterPathSpec)

/-- 'laws.FnExactBasinOf', WHERE WHAT IT READS IS OF BULK AT MOST 1048576: true; the input reads as it did. -/
def fnExactBasinOfUptoRow : OpenClaim := { program := "ytllblebicdeieaa", sum := "bc87985a7962da0dab7a0eeb6ccf071f1956a51ea2b16610b499270892d107f2", func := "loop.example/g01288/laws.FnExactBasinOf", spec := "fnExactBasinOf", unfollowed := true, recurses := true, apart := false, narrowed := true }
def FnExactBasinOfUptoSaid : Prop := fnExactBasinOfUptoRow.holds Try.pinned (OpenSpec.upto fnExactBasinOfSpec)

/-- 'laws.FnExactWorstBalance', WHERE WHAT IT READS IS OF BULK AT MOST 1048576: true; the input reads as it did. -/
def fnExactWorstBalanceUptoRow : OpenClaim := { program := "ytllblebicdeieaa", sum := "bc87985a7962da0dab7a0eeb6ccf071f1956a51ea2b16610b499270892d107f2", func := "loop.example/g01288/laws.FnExactWorstBalance", spec := "fnExactWorstBalance", inPlace := ["math.Float64bits", "math.Float64frombits"], unfollowed := true, recurses := true, apart := false, narrowed := true }
def FnExactWorstBalanceUptoSaid : Prop := fnExactWorstBalanceUptoRow.holds Try.pinned (OpenSpec.upto fnExactWorstBalanceSpec)

/-- 'laws.FnExactLeakOf', WHERE WHAT IT READS IS OF BULK AT MOST 1048576: true; the input reads as it did. -/
def fnExactLeakOfUptoRow : OpenClaim := { program := "ytllblebicdeieaa", sum := "bc87985a7962da0dab7a0eeb6ccf071f1956a51ea2b16610b499270892d107f2", func := "loop.example/g01288/laws.FnExactLeakOf", spec := "fnExactLeakOf", unfollowed := true, recurses := true, apart := false, narrowed := true }
def FnExactLeakOfUptoSaid : Prop := fnExactLeakOfUptoRow.holds Try.pinned (OpenSpec.upto fnExactLeakOfSpec)

/-- 'laws.FnExactStepAtOnce', WHERE WHAT IT READS IS OF BULK AT MOST 1048576: true; the input reads as it did. -/
def fnExactStepAtOnceUptoRow : OpenClaim := { program := "ytllblebicdeieaa", sum := "bc87985a7962da0dab7a0eeb6ccf071f1956a51ea2b16610b499270892d107f2", func := "loop.example/g01288/laws.FnExactStepAtOnce", spec := "fnExactStepAtOnce", inPlace := ["math.Float64bits", "math.Float64frombits"], unfollowed := true, recurses := true, apart := false, narrowed := true }
def FnExactStepAtOnceUptoSaid : Prop := fnExactStepAtOnceUptoRow.holds Try.pinned (OpenSpec.upto fnExactStepAtOnceSpec)

/-- 'laws.FnExactSweepInOrder', WHERE WHAT IT READS IS OF BULK AT MOST 1048576: true; the input reads as it did. -/
def fnExactSweepInOrderUptoRow : OpenClaim := { program := "ytllblebicdeieaa", sum := "bc87985a7962da0dab7a0eeb6ccf071f1956a51ea2b16610b499270892d107f2", func := "loop.example/g01288/laws.FnExactSweepInOrder", spec := "fnExactSweepInOrder", inPlace := ["math.Float64bits", "math.Float64frombits"], unfollowed := true, recurses := true, apart := false, narrowed := true }
def FnExactSweepInOrderUptoSaid : Prop := fnExactSweepInOrderUptoRow.holds Try.pinned (OpenSpec.upto fnExactSweepInOrderSpec)

/-- 'laws.FnExactRelaxedSweep', WHERE WHAT IT READS IS OF BULK AT MOST 1048576: true; the input reads as it did. -/
def fnExactRelaxedSweepUptoRow : OpenClaim := { program := "ytllblebicdeieaa", sum := "bc87985a7962da0dab7a0eeb6ccf071f1956a51ea2b16610b499270892d107f2", func := "loop.example/g01288/laws.FnExactRelaxedSweep", spec := "fnExactRelaxedSweep", inPlace := ["math.Float64bits", "math.Float64frombits"], unfollowed := true, recurses := true, apart := false, narrowed := true }
def FnExactRelaxedSweepUptoSaid : Prop := fnExactRelaxedSweepUptoRow.holds Try.pinned (OpenSpec.upto fnExactRelaxedSweepSpec)

/-- 'laws.FnExactSweepColour', WHERE WHAT IT READS IS OF BULK AT MOST 1048576: true; the input reads as it did. -/
def fnExactSweepColourUptoRow : OpenClaim := { program := "ytllblebicdeieaa", sum := "bc87985a7962da0dab7a0eeb6ccf071f1956a51ea2b16610b499270892d107f2", func := "loop.example/g01288/laws.FnExactSweepColour", spec := "fnExactSweepColour", inPlace := ["math.Float64bits", "math.Float64frombits"], unfollowed := true, recurses := true, apart := false, narrowed := true }
def FnExactSweepColourUptoSaid : Prop := fnExactSweepColourUptoRow.holds Try.pinned (OpenSpec.upto fnExactSweepColourSpec)

/-- 'laws.FnExactSettleGround', WHERE WHAT IT READS IS OF BULK AT MOST 1048576: true; the input reads as it did. -/
def fnExactSettleGroundUptoRow : OpenClaim := { program := "ytllblebicdeieaa", sum := "bc87985a7962da0dab7a0eeb6ccf071f1956a51ea2b16610b499270892d107f2", func := "loop.example/g01288/laws.FnExactSettleGround", spec := "fnExactSettleGround", inPlace := ["math.Float64bits", "math.Float64frombits"], unfollowed := true, recurses := true, apart := false, narrowed := true }
def FnExactSettleGroundUptoSaid : Prop := fnExactSettleGroundUptoRow.holds Try.pinned (OpenSpec.upto fnExactSettleGroundSpec)

/-- 'laws.FnExactSweepBoth', WHERE WHAT IT READS IS OF BULK AT MOST 1048576: true; the input reads as it did. -/
def fnExactSweepBothUptoRow : OpenClaim := { program := "ytllblebicdeieaa", sum := "bc87985a7962da0dab7a0eeb6ccf071f1956a51ea2b16610b499270892d107f2", func := "loop.example/g01288/laws.FnExactSweepBoth", spec := "fnExactSweepBoth", inPlace := ["math.Float64bits", "math.Float64frombits"], unfollowed := true, recurses := true, apart := false, narrowed := true }
def FnExactSweepBothUptoSaid : Prop := fnExactSweepBothUptoRow.holds Try.pinned (OpenSpec.upto fnExactSweepBothSpec)

end Rows
end Go.Proofs.Ytllblebicdeieaa
