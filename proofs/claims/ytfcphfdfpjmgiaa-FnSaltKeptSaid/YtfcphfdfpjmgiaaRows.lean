/-
  No cell of these rows narrows 'for every input' (looked for: loops, veiled, ifaces, maps, wideKeys, modest, calm, conditions, laid).
  DERIVED. THE GIVEN ROWS OF THIS SEAT. 8 by the template 'for every input the law returns true; each argument reads behind the call as it read before'; 0 by the template 'total and deterministic' (their statements: YtfcphfdfpjmgiaaTotals.lean).
  GIVEN WITH THE SEED: the statements are not yours to turn. If you find one false, say at which input.
  Laid BY PROGRAM, IN A SANDBOX (cutbox-rows.mjs): the forced cells as the released guide's own fill.sh prints them over the translation b527e3976be8af32… (all of the seat's roots in one cut). By AI agents, Wed Nov 11 2026. No macro, syntax, notation, axiom, sorry.
-/
import Derived.Test.YtfcphfdfpjmgiaaChecked
import GoSem.Claim
import GoSem.ClaimJoined
import GoSem.ClaimMapViews
import Derived.JoinedTies
import Derived.KernelRfl
namespace Go.Proofs.Ytfcphfdfpjmgiaa
/- THE CELL 'sum', in the pinned program and in every row, IS THE sha256 OF THE DUMP (.gsa) THAT YtfcphfdfpjmgiaaProg.lean LOADS. Nothing in Lean hashes anything: it is a label: what it is worth is what the hold of that sum in a sandbox is worth. -/
noncomputable def Try.pinned : Pinned := { name := "ytfcphfdfpjmgiaa", sum := "b527e3976be8af322f454b3e2a77d105609b4711b27c15f5c1027608880b1dc6", checked := Try.checked }
namespace Rows
def none {H : Type} : Left H := { results := [], args := [] }

/-- 'laws.FnStill': WHATEVER THE INPUT: true; the input reads as it did. -/
def fnStillSpec : ChangeSpec := { name := "fnStill", fn := fun _ => fun
  | [d1, d2] => { results := [.lit (.bool true)], args := [d1, d2] }
  | _ => none }
def fnStillRow : OpenClaim := { program := "ytfcphfdfpjmgiaa", sum := "b527e3976be8af322f454b3e2a77d105609b4711b27c15f5c1027608880b1dc6", func := "loop.example/g01288/laws.FnStill", spec := "fnStill", inPlace := ["math.Float64bits", "math.Float64frombits", "math.Float32bits"], unfollowed := true, recurses := true, apart := false }
def FnStillSaid : Prop := fnStillRow.holds Try.pinned (OpenSpec.ofChange fnStillSpec)

/-- ITS FALSE NEIGHBOUR: 'it returns false'. Refute it at one input. -/
def fnStillWrong : ChangeSpec := { name := "fnStill", fn := fun _ => fun
  | [d1, d2] => { results := [.lit (.bool false)], args := [d1, d2] }
  | _ => none }
def FnStillWrongFalsely : Prop := fnStillRow.holds Try.pinned (OpenSpec.ofChange fnStillWrong)

/-- 'laws.FnBrines': WHATEVER THE INPUT: true; the input reads as it did. -/
def fnBrinesSpec : ChangeSpec := { name := "fnBrines", fn := fun _ => fun
  | [d1, d2] => { results := [.lit (.bool true)], args := [d1, d2] }
  | _ => none }
def fnBrinesRow : OpenClaim := { program := "ytfcphfdfpjmgiaa", sum := "b527e3976be8af322f454b3e2a77d105609b4711b27c15f5c1027608880b1dc6", func := "loop.example/g01288/laws.FnBrines", spec := "fnBrines", inPlace := ["math.Float32frombits", "math.Float32bits", "math.Float64bits", "math.Float64frombits"], unfollowed := true, recurses := true, apart := false }
def FnBrinesSaid : Prop := fnBrinesRow.holds Try.pinned (OpenSpec.ofChange fnBrinesSpec)

/-- ITS FALSE NEIGHBOUR: 'it returns false'. Refute it at one input. -/
def fnBrinesWrong : ChangeSpec := { name := "fnBrines", fn := fun _ => fun
  | [d1, d2] => { results := [.lit (.bool false)], args := [d1, d2] }
  | _ => none }
def FnBrinesWrongFalsely : Prop := fnBrinesRow.holds Try.pinned (OpenSpec.ofChange fnBrinesWrong)

/-- 'laws.FnSaltKept': WHATEVER THE INPUT: true; the input reads as it did. -/
def fnSaltKeptSpec : ChangeSpec := { name := "fnSaltKept", fn := fun _ => fun
  | [d1, d2] => { results := [.lit (.bool true)], args := [d1, d2] }
  | _ => none }
def fnSaltKeptRow : OpenClaim := { program := "ytfcphfdfpjmgiaa", sum := "b527e3976be8af322f454b3e2a77d105609b4711b27c15f5c1027608880b1dc6", func := "loop.example/g01288/laws.FnSaltKept", spec := "fnSaltKept", inPlace := ["math.Float32frombits", "math.Float32bits"], unfollowed := true, recurses := true, apart := false }
def FnSaltKeptSaid : Prop := fnSaltKeptRow.holds Try.pinned (OpenSpec.ofChange fnSaltKeptSpec)

/-- ITS FALSE NEIGHBOUR: 'it returns false'. Refute it at one input. -/
def fnSaltKeptWrong : ChangeSpec := { name := "fnSaltKept", fn := fun _ => fun
  | [d1, d2] => { results := [.lit (.bool false)], args := [d1, d2] }
  | _ => none }
def FnSaltKeptWrongFalsely : Prop := fnSaltKeptRow.holds Try.pinned (OpenSpec.ofChange fnSaltKeptWrong)

/-- 'laws.FnPaths': WHATEVER THE INPUT: true; the input reads as it did. -/
def fnPathsSpec : ChangeSpec := { name := "fnPaths", fn := fun _ => fun
  | [d1, d2] => { results := [.lit (.bool true)], args := [d1, d2] }
  | _ => none }
def fnPathsRow : OpenClaim := { program := "ytfcphfdfpjmgiaa", sum := "b527e3976be8af322f454b3e2a77d105609b4711b27c15f5c1027608880b1dc6", func := "loop.example/g01288/laws.FnPaths", spec := "fnPaths", unfollowed := true, recurses := true, apart := false }
def FnPathsSaid : Prop := fnPathsRow.holds Try.pinned (OpenSpec.ofChange fnPathsSpec)

/-- ITS FALSE NEIGHBOUR: 'it returns false'. Refute it at one input. -/
def fnPathsWrong : ChangeSpec := { name := "fnPaths", fn := fun _ => fun
  | [d1, d2] => { results := [.lit (.bool false)], args := [d1, d2] }
  | _ => none }
def FnPathsWrongFalsely : Prop := fnPathsRow.holds Try.pinned (OpenSpec.ofChange fnPathsWrong)

/-- 'laws.FnDecay': WHATEVER THE INPUT: true; the input reads as it did. -/
def fnDecaySpec : ChangeSpec := { name := "fnDecay", fn := fun _ => fun
  | [d1, d2] => { results := [.lit (.bool true)], args := [d1, d2] }
  | _ => none }
def fnDecayRow : OpenClaim := { program := "ytfcphfdfpjmgiaa", sum := "b527e3976be8af322f454b3e2a77d105609b4711b27c15f5c1027608880b1dc6", func := "loop.example/g01288/laws.FnDecay", spec := "fnDecay", inPlace := ["math.Float32bits", "math.Float32frombits"], unfollowed := true, recurses := true, apart := false }
def FnDecaySaid : Prop := fnDecayRow.holds Try.pinned (OpenSpec.ofChange fnDecaySpec)

/-- ITS FALSE NEIGHBOUR: 'it returns false'. Refute it at one input. -/
def fnDecayWrong : ChangeSpec := { name := "fnDecay", fn := fun _ => fun
  | [d1, d2] => { results := [.lit (.bool false)], args := [d1, d2] }
  | _ => none }
def FnDecayWrongFalsely : Prop := fnDecayRow.holds Try.pinned (OpenSpec.ofChange fnDecayWrong)

/-- 'laws.FnSettled': WHATEVER THE INPUT: true; the input reads as it did. -/
def fnSettledSpec : ChangeSpec := { name := "fnSettled", fn := fun _ => fun
  | [d1, d2] => { results := [.lit (.bool true)], args := [d1, d2] }
  | _ => none }
def fnSettledRow : OpenClaim := { program := "ytfcphfdfpjmgiaa", sum := "b527e3976be8af322f454b3e2a77d105609b4711b27c15f5c1027608880b1dc6", func := "loop.example/g01288/laws.FnSettled", spec := "fnSettled", inPlace := ["math.Float64bits", "math.Float64frombits", "math.Float32bits"], unfollowed := true, recurses := true, apart := false }
def FnSettledSaid : Prop := fnSettledRow.holds Try.pinned (OpenSpec.ofChange fnSettledSpec)

/-- ITS FALSE NEIGHBOUR: 'it returns false'. Refute it at one input. -/
def fnSettledWrong : ChangeSpec := { name := "fnSettled", fn := fun _ => fun
  | [d1, d2] => { results := [.lit (.bool false)], args := [d1, d2] }
  | _ => none }
def FnSettledWrongFalsely : Prop := fnSettledRow.holds Try.pinned (OpenSpec.ofChange fnSettledWrong)

/-- 'laws.FnBalances': WHATEVER THE INPUT: true; the input reads as it did. -/
def fnBalancesSpec : ChangeSpec := { name := "fnBalances", fn := fun _ => fun
  | [d1, d2] => { results := [.lit (.bool true)], args := [d1, d2] }
  | _ => none }
def fnBalancesRow : OpenClaim := { program := "ytfcphfdfpjmgiaa", sum := "b527e3976be8af322f454b3e2a77d105609b4711b27c15f5c1027608880b1dc6", func := "loop.example/g01288/laws.FnBalances", spec := "fnBalances", inPlace := ["math.Float64bits", "math.Float64frombits", "math.Float32bits"], unfollowed := true, recurses := true, apart := false }
def FnBalancesSaid : Prop := fnBalancesRow.holds Try.pinned (OpenSpec.ofChange fnBalancesSpec)

/-- ITS FALSE NEIGHBOUR: 'it returns false'. Refute it at one input. -/
def fnBalancesWrong : ChangeSpec := { name := "fnBalances", fn := fun _ => fun
  | [d1, d2] => { results := [.lit (.bool false)], args := [d1, d2] }
  | _ => none }
def FnBalancesWrongFalsely : Prop := fnBalancesRow.holds Try.pinned (OpenSpec.ofChange fnBalancesWrong)

/-- 'laws.FnExactPumpAt': WHATEVER THE INPUT: true; the input reads as it did. -/
def fnExactPumpAtSpec : ChangeSpec := { name := "fnExactPumpAt", fn := fun _ => fun
  | [d1, d2, d3, d4, d5] => { results := [.lit (.bool true)], args := [d1, d2, d3, d4, d5] }
  | _ => none }
def fnExactPumpAtRow : OpenClaim := { program := "ytfcphfdfpjmgiaa", sum := "b527e3976be8af322f454b3e2a77d105609b4711b27c15f5c1027608880b1dc6", func := "loop.example/g01288/laws.FnExactPumpAt", spec := "fnExactPumpAt", inPlace := ["math.Float64bits", "math.Float64frombits"], unfollowed := true, recurses := true, apart := false }
def FnExactPumpAtSaid : Prop := fnExactPumpAtRow.holds Try.pinned (OpenSpec.ofChange fnExactPumpAtSpec)

/-- ITS FALSE NEIGHBOUR: 'it returns false'. Refute it at one input. -/
def fnExactPumpAtWrong : ChangeSpec := { name := "fnExactPumpAt", fn := fun _ => fun
  | [d1, d2, d3, d4, d5] => { results := [.lit (.bool false)], args := [d1, d2, d3, d4, d5] }
  | _ => none }
def FnExactPumpAtWrongFalsely : Prop := fnExactPumpAtRow.holds Try.pinned (OpenSpec.ofChange fnExactPumpAtWrong)

/- THE SECOND FORM. 'bulk': how many values and letters a reading holds, each counted each time it is reached (what is shared counts as often as it is met; a slice's spare places count too). A statement '..UptoSaid' is the law's where the arguments, and the package variables that the reading takes, are together of bulk at most 1048576: NARROWER than '..Said'. Prove '..Said' where nothing that the law and all that it calls make is longer than what came in: it says more and counts as full. Else prove '..UptoSaid'. A law counts once. -/
mutual
def uptoBulk {H : Type} : DataW H → Nat
  | .lit (.string bytes) => bytes.length + 1
  | .lit _ => 1
  | .nil => 1
  | .ptr d => uptoBulk d + 1
  | .slice elems spare => uptoBulkAll elems + uptoBulkAll spare + 1
  | .agg parts => uptoBulkAll parts + 1
  | .iface _ d => uptoBulk d + 1
  | .map entries => uptoBulkEntries entries + 1
  | .held _ => 1
def uptoBulkAll {H : Type} : List (DataW H) → Nat
  | [] => 0
  | d :: r => uptoBulk d + uptoBulkAll r
def uptoBulkEntries {H : Type} : List (Lit × DataW H) → Nat
  | [] => 0
  | x :: r => uptoBulkEntry x + uptoBulkEntries r
def uptoBulkEntry {H : Type} : Lit × DataW H → Nat
  | (.string bytes, d) => bytes.length + uptoBulk d + 1
  | (_, d) => uptoBulk d + 1
 end
def uptoSmall : (H : Type) → List (DataW H) → Bool := fun _ ds => decide (uptoBulkAll ds ≤ 1048576)
def OpenSpec.upto (s : _root_.Go.ChangeSpec) : _root_.Go.OpenSpec := { _root_.Go.OpenSpec.ofChange s with cond := some uptoSmall }

/-- 'laws.FnStill', WHERE WHAT IT READS IS OF BULK AT MOST 1048576: true; the input reads as it did. -/
def fnStillUptoRow : OpenClaim := { program := "ytfcphfdfpjmgiaa", sum := "b527e3976be8af322f454b3e2a77d105609b4711b27c15f5c1027608880b1dc6", func := "loop.example/g01288/laws.FnStill", spec := "fnStill", inPlace := ["math.Float64bits", "math.Float64frombits", "math.Float32bits"], unfollowed := true, recurses := true, apart := false, narrowed := true }
def FnStillUptoSaid : Prop := fnStillUptoRow.holds Try.pinned (OpenSpec.upto fnStillSpec)

/-- 'laws.FnBrines', WHERE WHAT IT READS IS OF BULK AT MOST 1048576: true; the input reads as it did. -/
def fnBrinesUptoRow : OpenClaim := { program := "ytfcphfdfpjmgiaa", sum := "b527e3976be8af322f454b3e2a77d105609b4711b27c15f5c1027608880b1dc6", func := "loop.example/g01288/laws.FnBrines", spec := "fnBrines", inPlace := ["math.Float32frombits", "math.Float32bits", "math.Float64bits", "math.Float64frombits"], unfollowed := true, recurses := true, apart := false, narrowed := true }
def FnBrinesUptoSaid : Prop := fnBrinesUptoRow.holds Try.pinned (OpenSpec.upto fnBrinesSpec)

/-- 'laws.FnSaltKept', WHERE WHAT IT READS IS OF BULK AT MOST 1048576: true; the input reads as it did. -/
def fnSaltKeptUptoRow : OpenClaim := { program := "ytfcphfdfpjmgiaa", sum := "b527e3976be8af322f454b3e2a77d105609b4711b27c15f5c1027608880b1dc6", func := "loop.example/g01288/laws.FnSaltKept", spec := "fnSaltKept", inPlace := ["math.Float32frombits", "math.Float32bits"], unfollowed := true, recurses := true, apart := false, narrowed := true }
def FnSaltKeptUptoSaid : Prop := fnSaltKeptUptoRow.holds Try.pinned (OpenSpec.upto fnSaltKeptSpec)

/-- 'laws.FnPaths', WHERE WHAT IT READS IS OF BULK AT MOST 1048576: true; the input reads as it did. -/
def fnPathsUptoRow : OpenClaim := { program := "ytfcphfdfpjmgiaa", sum := "b527e3976be8af322f454b3e2a77d105609b4711b27c15f5c1027608880b1dc6", func := "loop.example/g01288/laws.FnPaths", spec := "fnPaths", unfollowed := true, recurses := true, apart := false, narrowed := true }
def FnPathsUptoSaid : Prop := fnPathsUptoRow.holds Try.pinned (OpenSpec.upto fnPathsSpec)

/-- 'laws.FnDecay', WHERE WHAT IT READS IS OF BULK AT MOST 1048576: true; the input reads as it did. -/
def fnDecayUptoRow : OpenClaim := { program := "ytfcphfdfpjmgiaa", sum := "b527e3976be8af322f454b3e2a77d105609b4711b27c15f5c1027608880b1dc6", func := "loop.example/g01288/laws.FnDecay", spec := "fnDecay", inPlace := ["math.Float32bits", "math.Float32frombits"], unfollowed := true, recurses := true, apart := false, narrowed := true }
def FnDecayUptoSaid : Prop := fnDecayUptoRow.holds Try.pinned (OpenSpec.upto fnDecaySpec)

/-- 'laws.FnSettled', WHERE WHAT IT READS IS OF BULK AT MOST 1048576: true; the input reads as it did. -/
def fnSettledUptoRow : OpenClaim := { program := "ytfcphfdfpjmgiaa", sum := "b527e3976be8af322f454b3e2a77d105609b4711b27c15f5c1027608880b1dc6", func := "loop.example/g01288/laws.FnSettled", spec := "fnSettled", inPlace := ["math.Float64bits", "math.Float64frombits", "math.Float32bits"], unfollowed := true, recurses := true, apart := false, narrowed := true }
def FnSettledUptoSaid : Prop := fnSettledUptoRow.holds Try.pinned (OpenSpec.upto fnSettledSpec)

/-- 'laws.FnBalances', WHERE WHAT IT READS IS OF BULK AT MOST 1048576: true; the input reads as it did. -/
def fnBalancesUptoRow : OpenClaim := { program := "ytfcphfdfpjmgiaa", sum := "b527e3976be8af322f454b3e2a77d105609b4711b27c15f5c1027608880b1dc6", func := "loop.example/g01288/laws.FnBalances", spec := "fnBalances", inPlace := ["math.Float64bits", "math.Float64frombits", "math.Float32bits"], unfollowed := true, recurses := true, apart := false, narrowed := true }
def FnBalancesUptoSaid : Prop := fnBalancesUptoRow.holds Try.pinned (OpenSpec.upto fnBalancesSpec)

/-- 'laws.FnExactPumpAt', WHERE WHAT IT READS IS OF BULK AT MOST 1048576: true; the input reads as it did. -/
def fnExactPumpAtUptoRow : OpenClaim := { program := "ytfcphfdfpjmgiaa", sum := "b527e3976be8af322f454b3e2a77d105609b4711b27c15f5c1027608880b1dc6", func := "loop.example/g01288/laws.FnExactPumpAt", spec := "fnExactPumpAt", inPlace := ["math.Float64bits", "math.Float64frombits"], unfollowed := true, recurses := true, apart := false, narrowed := true }
def FnExactPumpAtUptoSaid : Prop := fnExactPumpAtUptoRow.holds Try.pinned (OpenSpec.upto fnExactPumpAtSpec)

end Rows
end Go.Proofs.Ytfcphfdfpjmgiaa
