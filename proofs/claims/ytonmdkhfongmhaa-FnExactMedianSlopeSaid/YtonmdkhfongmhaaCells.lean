/- The cells of a ground, in a list. -/
import Derived.Test.YtonmdkhfongmhaaBal
namespace Go.Proofs.Ytonmdkhfongmhaa
open Go.RowKit

def cellsTo (W H : Int) (k : Nat) : List Nat := (List.range k).filter fun c => hasB W H c
def ints (l : List Nat) : List Value := l.map fun c : Nat => .int .i64 c

theorem cellsTo_yes {W H : Int} {k : Nat} (h : hasB W H k = true) : cellsTo W H (k + 1) = cellsTo W H k ++ [k] := by
  unfold cellsTo; rw [List.range_succ, List.filter_append]; simp [h]
theorem cellsTo_no {W H : Int} {k : Nat} (h : hasB W H k = false) : cellsTo W H (k + 1) = cellsTo W H k := by
  unfold cellsTo; rw [List.range_succ, List.filter_append]; simp [h]
theorem cellsTo_length (W H : Int) (k : Nat) : (cellsTo W H k).length ≤ k := by
  unfold cellsTo; exact Nat.le_trans (List.length_filter_le _ _) (by simp)
theorem cellsTo_lt {W H : Int} {k c : Nat} (h : c ∈ cellsTo W H k) : c < k := by
  unfold cellsTo at h; simpa using (List.mem_filter.1 h).1

/-- A list of whole numbers in new memory is handed back. -/
def RetL (l : List Nat) (w : World) (e : Ending) (w' : World) : Prop := ∃ v, e = .returned v ∧ w'.ownsRow w.heap.size 3 1 v l.length (ints l) ∧ Below w.heap.size w w'

def CellsRel (W H : Int) (w : World) (v3 v6 : Value) (wr : World) : Prop := ∃ k : Nat, k ≤ 64 ∧ v6 = .int .i64 k ∧ wr.ownsRow w.heap.size 3 1 v3 (cellsTo W H k).length (ints (cellsTo W H k)) ∧ Below w.heap.size w wr

theorem Try.info3 : (Try.prog.info? 3).map (fun i => (i.zero, i.size, i.bytes)) = some (some (.int .i64 0), 1, 8) := by kernel_rfl

theorem ints_snoc (l : List Nat) (k : Nat) : ints (l ++ [k]) = ints l ++ [.int .i64 k] := by simp [ints]

end Go.Proofs.Ytonmdkhfongmhaa
