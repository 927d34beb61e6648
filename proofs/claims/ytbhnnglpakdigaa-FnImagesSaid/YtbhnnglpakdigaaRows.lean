/-
  No cell of these rows narrows 'for every input' (looked for: loops, veiled, ifaces, maps, wideKeys, modest, calm, conditions, laid).
  DERIVED. THE GIVEN ROWS OF THIS SEAT. 9 by the template 'for every input the law returns true; each argument reads behind the call as it read before'; 0 by the template 'total and deterministic' (their statements: YtbhnnglpakdigaaTotals.lean).
  GIVEN WITH THE SEED: the statements are not yours to turn. If you find one false, say at which input.
  Laid BY PROGRAM, IN A SANDBOX (cutbox-rows.mjs): the forced cells as the released guide's own fill.sh prints them over the translation 965db2b1844f9657… (all of the seat's roots in one cut). By AI agents, Wed Nov 11 2026. No macro, syntax, notation, axiom, sorry.
-/
import Derived.Test.YtbhnnglpakdigaaChecked
import GoSem.Claim
import GoSem.ClaimJoined
import GoSem.ClaimMapViews
import Derived.JoinedTies
import Derived.KernelRfl
namespace Go.Proofs.Ytbhnnglpakdigaa
/- THE CELL 'sum', in the pinned program and in every row, IS THE sha256 OF THE DUMP (.gsa) THAT YtbhnnglpakdigaaProg.lean LOADS. Nothing in Lean hashes anything: it is a label: what it is worth is what the hold of that sum in a sandbox is worth. -/
noncomputable def Try.pinned : Pinned := { name := "ytbhnnglpakdigaa", sum := "965db2b1844f9657e54fabe5cdd6454f742f3a844fd86635ea83f8a56caf9030", checked := Try.checked }
namespace Rows
def none {H : Type} : Left H := { results := [], args := [] }

/-- 'laws.FnExactTimeUntil': WHATEVER THE INPUT: true; the input reads as it did. -/
def fnExactTimeUntilSpec : ChangeSpec := { name := "fnExactTimeUntil", fn := fun _ => fun
  | [d1, d2, d3, d4, d5, d6] => { results := [.lit (.bool true)], args := [d1, d2, d3, d4, d5, d6] }
  | _ => none }
def fnExactTimeUntilRow : OpenClaim := { program := "ytbhnnglpakdigaa", sum := "965db2b1844f9657e54fabe5cdd6454f742f3a844fd86635ea83f8a56caf9030", func := "loop.example/g01288/laws.FnExactTimeUntil", spec := "fnExactTimeUntil", unfollowed := true, recurses := true, apart := false }
def FnExactTimeUntilSaid : Prop := fnExactTimeUntilRow.holds Try.pinned (OpenSpec.ofChange fnExactTimeUntilSpec)

/-- ITS FALSE NEIGHBOUR: 'it returns false'. Refute it at one input. -/
def fnExactTimeUntilWrong : ChangeSpec := { name := "fnExactTimeUntil", fn := fun _ => fun
  | [d1, d2, d3, d4, d5, d6] => { results := [.lit (.bool false)], args := [d1, d2, d3, d4, d5, d6] }
  | _ => none }
def FnExactTimeUntilWrongFalsely : Prop := fnExactTimeUntilRow.holds Try.pinned (OpenSpec.ofChange fnExactTimeUntilWrong)

/-- 'laws.FnExactRadiusOf': WHATEVER THE INPUT: true; the input reads as it did. -/
def fnExactRadiusOfSpec : ChangeSpec := { name := "fnExactRadiusOf", fn := fun _ => fun
  | [d1, d2, d3, d4] => { results := [.lit (.bool true)], args := [d1, d2, d3, d4] }
  | _ => none }
def fnExactRadiusOfRow : OpenClaim := { program := "ytbhnnglpakdigaa", sum := "965db2b1844f9657e54fabe5cdd6454f742f3a844fd86635ea83f8a56caf9030", func := "loop.example/g01288/laws.FnExactRadiusOf", spec := "fnExactRadiusOf", unfollowed := true, recurses := true, apart := false }
def FnExactRadiusOfSaid : Prop := fnExactRadiusOfRow.holds Try.pinned (OpenSpec.ofChange fnExactRadiusOfSpec)

/-- ITS FALSE NEIGHBOUR: 'it returns false'. Refute it at one input. -/
def fnExactRadiusOfWrong : ChangeSpec := { name := "fnExactRadiusOf", fn := fun _ => fun
  | [d1, d2, d3, d4] => { results := [.lit (.bool false)], args := [d1, d2, d3, d4] }
  | _ => none }
def FnExactRadiusOfWrongFalsely : Prop := fnExactRadiusOfRow.holds Try.pinned (OpenSpec.ofChange fnExactRadiusOfWrong)

/-- 'laws.FnExactRecoveryAt': WHATEVER THE INPUT: true; the input reads as it did. -/
def fnExactRecoveryAtSpec : ChangeSpec := { name := "fnExactRecoveryAt", fn := fun _ => fun
  | [d1, d2, d3, d4, d5, d6] => { results := [.lit (.bool true)], args := [d1, d2, d3, d4, d5, d6] }
  | _ => none }
def fnExactRecoveryAtRow : OpenClaim := { program := "ytbhnnglpakdigaa", sum := "965db2b1844f9657e54fabe5cdd6454f742f3a844fd86635ea83f8a56caf9030", func := "loop.example/g01288/laws.FnExactRecoveryAt", spec := "fnExactRecoveryAt", unfollowed := true, recurses := true, apart := false }
def FnExactRecoveryAtSaid : Prop := fnExactRecoveryAtRow.holds Try.pinned (OpenSpec.ofChange fnExactRecoveryAtSpec)

/-- ITS FALSE NEIGHBOUR: 'it returns false'. Refute it at one input. -/
def fnExactRecoveryAtWrong : ChangeSpec := { name := "fnExactRecoveryAt", fn := fun _ => fun
  | [d1, d2, d3, d4, d5, d6] => { results := [.lit (.bool false)], args := [d1, d2, d3, d4, d5, d6] }
  | _ => none }
def FnExactRecoveryAtWrongFalsely : Prop := fnExactRecoveryAtRow.holds Try.pinned (OpenSpec.ofChange fnExactRecoveryAtWrong)

/-- 'laws.FnImages': WHATEVER THE INPUT: true; the input reads as it did. -/
def fnImagesSpec : ChangeSpec := { name := "fnImages", fn := fun _ => fun
  | [d1, d2] => { results := [.lit (.bool true)], args := [d1, d2] }
  | _ => none }
def fnImagesRow : OpenClaim := { program := "ytbhnnglpakdigaa", sum := "965db2b1844f9657e54fabe5cdd6454f742f3a844fd86635ea83f8a56caf9030", func := "loop.example/g01288/laws.FnImages", spec := "fnImages", inPlace := ["math.Float32bits"], unfollowed := true, recurses := true, apart := false }
def FnImagesSaid : Prop := fnImagesRow.holds Try.pinned (OpenSpec.ofChange fnImagesSpec)

/-- ITS FALSE NEIGHBOUR: 'it returns false'. Refute it at one input. -/
def fnImagesWrong : ChangeSpec := { name := "fnImages", fn := fun _ => fun
  | [d1, d2] => { results := [.lit (.bool false)], args := [d1, d2] }
  | _ => none }
def FnImagesWrongFalsely : Prop := fnImagesRow.holds Try.pinned (OpenSpec.ofChange fnImagesWrong)

/-- 'laws.FnExactSumAt': WHATEVER THE INPUT: true; the input reads as it did. -/
def fnExactSumAtSpec : ChangeSpec := { name := "fnExactSumAt", fn := fun _ => fun
  | [d1, d2, d3, d4, d5] => { results := [.lit (.bool true)], args := [d1, d2, d3, d4, d5] }
  | _ => none }
def fnExactSumAtRow : OpenClaim := { program := "ytbhnnglpakdigaa", sum := "965db2b1844f9657e54fabe5cdd6454f742f3a844fd86635ea83f8a56caf9030", func := "loop.example/g01288/laws.FnExactSumAt", spec := "fnExactSumAt", unfollowed := true, recurses := true, apart := false }
def FnExactSumAtSaid : Prop := fnExactSumAtRow.holds Try.pinned (OpenSpec.ofChange fnExactSumAtSpec)

/-- ITS FALSE NEIGHBOUR: 'it returns false'. Refute it at one input. -/
def fnExactSumAtWrong : ChangeSpec := { name := "fnExactSumAt", fn := fun _ => fun
  | [d1, d2, d3, d4, d5] => { results := [.lit (.bool false)], args := [d1, d2, d3, d4, d5] }
  | _ => none }
def FnExactSumAtWrongFalsely : Prop := fnExactSumAtRow.holds Try.pinned (OpenSpec.ofChange fnExactSumAtWrong)

/-- 'laws.FnReach': WHATEVER THE INPUT: true; the input reads as it did. -/
def fnReachSpec : ChangeSpec := { name := "fnReach", fn := fun _ => fun
  | [d1, d2] => { results := [.lit (.bool true)], args := [d1, d2] }
  | _ => none }
def fnReachRow : OpenClaim := { program := "ytbhnnglpakdigaa", sum := "965db2b1844f9657e54fabe5cdd6454f742f3a844fd86635ea83f8a56caf9030", func := "loop.example/g01288/laws.FnReach", spec := "fnReach", unfollowed := true, recurses := true, apart := false }
def FnReachSaid : Prop := fnReachRow.holds Try.pinned (OpenSpec.ofChange fnReachSpec)

/-- ITS FALSE NEIGHBOUR: 'it returns false'. Refute it at one input. -/
def fnReachWrong : ChangeSpec := { name := "fnReach", fn := fun _ => fun
  | [d1, d2] => { results := [.lit (.bool false)], args := [d1, d2] }
  | _ => none }
def FnReachWrongFalsely : Prop := fnReachRow.holds Try.pinned (OpenSpec.ofChange fnReachWrong)

/-- 'laws.FnExactFieldAfter': WHATEVER THE INPUT: true; the input reads as it did. -/
def fnExactFieldAfterSpec : ChangeSpec := { name := "fnExactFieldAfter", fn := fun _ => fun
  | [d1, d2, d3] => { results := [.lit (.bool true)], args := [d1, d2, d3] }
  | _ => none }
def fnExactFieldAfterRow : OpenClaim := { program := "ytbhnnglpakdigaa", sum := "965db2b1844f9657e54fabe5cdd6454f742f3a844fd86635ea83f8a56caf9030", func := "loop.example/g01288/laws.FnExactFieldAfter", spec := "fnExactFieldAfter", unfollowed := true, recurses := true, apart := false }
def FnExactFieldAfterSaid : Prop := fnExactFieldAfterRow.holds Try.pinned (OpenSpec.ofChange fnExactFieldAfterSpec)

/-- ITS FALSE NEIGHBOUR: 'it returns false'. Refute it at one input. -/
def fnExactFieldAfterWrong : ChangeSpec := { name := "fnExactFieldAfter", fn := fun _ => fun
  | [d1, d2, d3] => { results := [.lit (.bool false)], args := [d1, d2, d3] }
  | _ => none }
def FnExactFieldAfterWrongFalsely : Prop := fnExactFieldAfterRow.holds Try.pinned (OpenSpec.ofChange fnExactFieldAfterWrong)

/-- 'laws.FnExactDrawdownsAt': WHATEVER THE INPUT: true; the input reads as it did. -/
def fnExactDrawdownsAtSpec : ChangeSpec := { name := "fnExactDrawdownsAt", fn := fun _ => fun
  | [d1, d2, d3, d4, d5] => { results := [.lit (.bool true)], args := [d1, d2, d3, d4, d5] }
  | _ => none }
def fnExactDrawdownsAtRow : OpenClaim := { program := "ytbhnnglpakdigaa", sum := "965db2b1844f9657e54fabe5cdd6454f742f3a844fd86635ea83f8a56caf9030", func := "loop.example/g01288/laws.FnExactDrawdownsAt", spec := "fnExactDrawdownsAt", unfollowed := true, recurses := true, apart := false }
def FnExactDrawdownsAtSaid : Prop := fnExactDrawdownsAtRow.holds Try.pinned (OpenSpec.ofChange fnExactDrawdownsAtSpec)

/-- ITS FALSE NEIGHBOUR: 'it returns false'. Refute it at one input. -/
def fnExactDrawdownsAtWrong : ChangeSpec := { name := "fnExactDrawdownsAt", fn := fun _ => fun
  | [d1, d2, d3, d4, d5] => { results := [.lit (.bool false)], args := [d1, d2, d3, d4, d5] }
  | _ => none }
def FnExactDrawdownsAtWrongFalsely : Prop := fnExactDrawdownsAtRow.holds Try.pinned (OpenSpec.ofChange fnExactDrawdownsAtWrong)

/-- 'laws.FnExactStrongestWell': WHATEVER THE INPUT: true; the input reads as it did. -/
def fnExactStrongestWellSpec : ChangeSpec := { name := "fnExactStrongestWell", fn := fun _ => fun
  | [d1, d2, d3, d4, d5] => { results := [.lit (.bool true)], args := [d1, d2, d3, d4, d5] }
  | _ => none }
def fnExactStrongestWellRow : OpenClaim := { program := "ytbhnnglpakdigaa", sum := "965db2b1844f9657e54fabe5cdd6454f742f3a844fd86635ea83f8a56caf9030", func := "loop.example/g01288/laws.FnExactStrongestWell", spec := "fnExactStrongestWell", inPlace := ["math.Float64bits", "math.Float64frombits"], unfollowed := true, recurses := true, apart := false }
def FnExactStrongestWellSaid : Prop := fnExactStrongestWellRow.holds Try.pinned (OpenSpec.ofChange fnExactStrongestWellSpec)

/-- ITS FALSE NEIGHBOUR: 'it returns false'. Refute it at one input. -/
def fnExactStrongestWellWrong : ChangeSpec := { name := "fnExactStrongestWell", fn := fun _ => fun
  | [d1, d2, d3, d4, d5] => { results := [.lit (.bool false)], args := [d1, d2, d3, d4, d5] }
  | _ => none }
def FnExactStrongestWellWrongFalsely : Prop := fnExactStrongestWellRow.holds Try.pinned (OpenSpec.ofChange fnExactStrongestWellWrong)

/- THE SECOND FORM. 'bulk': how many values and letters a reading holds, each counted each time it is reached (what is shared counts as often as it is met; a slice's spare places count too). A statement '..UptoSaid' is the law's where the arguments, and the package variables that the reading takes, are together of bulk at most 1048576: NARROWER than '..Said'. Prove '..Said' where nothing that the law and all that it calls make is longer than what came in: it says more and counts as full. Else prove '..UptoSaid'. A law counts once. -/
mutual
def uptoBulk {H : Type} : DataW H → Nat
  | .lit (.string bytes) => bytes.length + 1
  | .lit _ => 1
  | .nil => 1
  | .ptr d => uptoBulk d + 1
  | .slice elems spare => uptoBulkAll elems + uptoBulkAll spare + 1
  | .agg parts => uptoBulkAll parts + 1
  | .iface _ d => uptoBulk d + 1
  | .map entries => uptoBulkEntries entries + 1
  | .held _ => 1
def uptoBulkAll {H : Type} : List (DataW H) → Nat
  | [] => 0
  | d :: r => uptoBulk d + uptoBulkAll r
def uptoBulkEntries {H : Type} : List (Lit × DataW H) → Nat
  | [] => 0
  | x :: r => uptoBulkEntry x + uptoBulkEntries r
def uptoBulkEntry {H : Type} : Lit × DataW H → Nat
  | (.string bytes, d) => bytes.length + uptoBulk d + 1
  | (_, d) => uptoBulk d + 1
 end
def uptoSmall : (H : Type) → List (DataW H) → Bool := fun _ ds => decide (uptoBulkAll ds ≤ 1048576)
def OpenSpec.upto (s : _root_.Go.ChangeSpec) : _root_.Go.OpenSpec := { _root_.Go.OpenSpec.ofChange s with cond := some uptoSmall }

/-- 'laws.FnExactTimeUntil', WHERE WHAT IT READS IS OF BULK AT MOST 1048576: true; the input reads as it did. -/
def fnExactTimeUntilUptoRow : OpenClaim := { program := "ytbhnnglpakdigaa", sum := "965db2b1844f9657e54fabe5cdd6454f742f3a844fd86635ea83f8a56caf9030", func := "loop.example/g01288/laws.FnExactTimeUntil", spec := "fnExactTimeUntil", unfollowed := true, recurses := true, apart := false, narrowed := true }
def FnExactTimeUntilUptoSaid : Prop := fnExactTimeUntilUptoRow.holds Try.pinned (OpenSpec.upto fnExactTimeUntilSpec)

/-- 'laws.FnExactRadiusOf', WHERE WHAT IT READS IS OF BULK AT MOST 1048576: true; the input reads as it did. -/
def fnExactRadiusOfUptoRow : OpenClaim := { program := "ytbhnnglpakdigaa", sum := "965db2b1844f9657e54fabe5cdd6454f742f3a844fd86635ea83f8a56caf9030", func := "loop.example/g01288/laws.FnExactRadiusOf", spec := "fnExactRadiusOf", unfollowed := true, recurses := true, apart := false, narrowed := true }
def FnExactRadiusOfUptoSaid : Prop := fnExactRadiusOfUptoRow.holds Try.pinned (OpenSpec.upto fnExactRadiusOfSpec)

/-- 'laws.FnExactRecoveryAt', WHERE WHAT IT READS IS OF BULK AT MOST 1048576: true; the input reads as it did. -/
def fnExactRecoveryAtUptoRow : OpenClaim := { program := "ytbhnnglpakdigaa", sum := "965db2b1844f9657e54fabe5cdd6454f742f3a844fd86635ea83f8a56caf9030", func := "loop.example/g01288/laws.FnExactRecoveryAt", spec := "fnExactRecoveryAt", unfollowed := true, recurses := true, apart := false, narrowed := true }
def FnExactRecoveryAtUptoSaid : Prop := fnExactRecoveryAtUptoRow.holds Try.pinned (OpenSpec.upto fnExactRecoveryAtSpec)

/-- 'laws.FnImages', WHERE WHAT IT READS IS OF BULK AT MOST 1048576: true; the input reads as it did. -/
def fnImagesUptoRow : OpenClaim := { program := "ytbhnnglpakdigaa", sum := "965db2b1844f9657e54fabe5cdd6454f742f3a844fd86635ea83f8a56caf9030", func := "loop.example/g01288/laws.FnImages", spec := "fnImages", inPlace := ["math.Float32bits"], unfollowed := true, recurses := true, apart := false, narrowed := true }
def FnImagesUptoSaid : Prop := fnImagesUptoRow.holds Try.pinned (OpenSpec.upto fnImagesSpec)

/-- 'laws.FnExactSumAt', WHERE WHAT IT READS IS OF BULK AT MOST 1048576: true; the input reads as it did. -/
def fnExactSumAtUptoRow : OpenClaim := { program := "ytbhnnglpakdigaa", sum := "965db2b1844f9657e54fabe5cdd6454f742f3a844fd86635ea83f8a56caf9030", func := "loop.example/g01288/laws.FnExactSumAt", spec := "fnExactSumAt", unfollowed := true, recurses := true, apart := false, narrowed := true }
def FnExactSumAtUptoSaid : Prop := fnExactSumAtUptoRow.holds Try.pinned (OpenSpec.upto fnExactSumAtSpec)

/-- 'laws.FnReach', WHERE WHAT IT READS IS OF BULK AT MOST 1048576: true; the input reads as it did. -/
def fnReachUptoRow : OpenClaim := { program := "ytbhnnglpakdigaa", sum := "965db2b1844f9657e54fabe5cdd6454f742f3a844fd86635ea83f8a56caf9030", func := "loop.example/g01288/laws.FnReach", spec := "fnReach", unfollowed := true, recurses := true, apart := false, narrowed := true }
def FnReachUptoSaid : Prop := fnReachUptoRow.holds Try.pinned (OpenSpec.upto fnReachSpec)

/-- 'laws.FnExactFieldAfter', WHERE WHAT IT READS IS OF BULK AT MOST 1048576: true; the input reads as it did. -/
def fnExactFieldAfterUptoRow : OpenClaim := { program := "ytbhnnglpakdigaa", sum := "965db2b1844f9657e54fabe5cdd6454f742f3a844fd86635ea83f8a56caf9030", func := "loop.example/g01288/laws.FnExactFieldAfter", spec := "fnExactFieldAfter", unfollowed := true, recurses := true, apart := false, narrowed := true }
def FnExactFieldAfterUptoSaid : Prop := fnExactFieldAfterUptoRow.holds Try.pinned (OpenSpec.upto fnExactFieldAfterSpec)

/-- 'laws.FnExactDrawdownsAt', WHERE WHAT IT READS IS OF BULK AT MOST 1048576: true; the input reads as it did. -/
def fnExactDrawdownsAtUptoRow : OpenClaim := { program := "ytbhnnglpakdigaa", sum := "965db2b1844f9657e54fabe5cdd6454f742f3a844fd86635ea83f8a56caf9030", func := "loop.example/g01288/laws.FnExactDrawdownsAt", spec := "fnExactDrawdownsAt", unfollowed := true, recurses := true, apart := false, narrowed := true }
def FnExactDrawdownsAtUptoSaid : Prop := fnExactDrawdownsAtUptoRow.holds Try.pinned (OpenSpec.upto fnExactDrawdownsAtSpec)

/-- 'laws.FnExactStrongestWell', WHERE WHAT IT READS IS OF BULK AT MOST 1048576: true; the input reads as it did. -/
def fnExactStrongestWellUptoRow : OpenClaim := { program := "ytbhnnglpakdigaa", sum := "965db2b1844f9657e54fabe5cdd6454f742f3a844fd86635ea83f8a56caf9030", func := "loop.example/g01288/laws.FnExactStrongestWell", spec := "fnExactStrongestWell", inPlace := ["math.Float64bits", "math.Float64frombits"], unfollowed := true, recurses := true, apart := false, narrowed := true }
def FnExactStrongestWellUptoSaid : Prop := fnExactStrongestWellUptoRow.holds Try.pinned (OpenSpec.upto fnExactStrongestWellSpec)

end Rows
end Go.Proofs.Ytbhnnglpakdigaa
