/- The bits of all cells; fields by the reference's test. -/
import Derived.Test.YtonmdkhfongmhaaOk
namespace Go.Proofs.Ytonmdkhfongmhaa
open Go.RowKit

def orBit (a : Int) (c : Nat) : Int := bits BinOp.or IntKind.u64 a (IntKind.u64.wrap (2 ^ c))
def bitsL (l : List Nat) : Int := l.foldl orBit 0
theorem bitsL_snoc (l : List Nat) (c : Nat) : bitsL (l ++ [c]) = orBit (bitsL l) c := by simp [bitsL]

/-- A whole number is handed back. -/
def RetI (k : IntKind) (x : Int) (w : World) (e : Ending) (w' : World) : Prop := e = .returned (.int k x) ∧ Below w.heap.size w w'

def BitsRel (m : M) (w1 : World) (v3 v9 : Value) (wr : World) : Prop :=
  ∃ (j : Nat) (x : Int), j ≤ (cellsM m).length ∧ v9 = .int .i64 j ∧ v3 = .int .u64 x ∧ x = bitsL ((cellsM m).take j) ∧ wr = w1

end Go.Proofs.Ytonmdkhfongmhaa
