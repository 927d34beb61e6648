/- The cells that are not fixed. -/
import Derived.Test.YtfcphfdfpjmgiaaLM0
namespace Go.Proofs.Ytfcphfdfpjmgiaa
open Go.RowKit

def freeL (m : M) (k : Nat) : List Nat := (cellsTo m.wide m.high k).filter fun c => !fixB m.fixed c
theorem freeL_no {m : M} {k : Nat} (h : hasB m.wide m.high k = false) : freeL m (k + 1) = freeL m k := by unfold freeL; rw [cellsTo_no h]
theorem freeL_fix {m : M} {k : Nat} (h : hasB m.wide m.high k = true) (h' : fixB m.fixed k = true) : freeL m (k + 1) = freeL m k := by
  unfold freeL; rw [cellsTo_yes h, List.filter_append]; simp [h']
theorem freeL_yes {m : M} {k : Nat} (h : hasB m.wide m.high k = true) (h' : fixB m.fixed k = false) : freeL m (k + 1) = freeL m k ++ [k] := by
  unfold freeL; rw [cellsTo_yes h, List.filter_append]; simp [h']
theorem freeL_lt {m : M} {k c : Nat} (h : c ∈ freeL m k) : c < k := cellsTo_lt (List.mem_filter.1 h).1
theorem freeL_length (m : M) (k : Nat) : (freeL m k).length ≤ k := Nat.le_trans (List.length_filter_le _ _) (cellsTo_length _ _ _)
end Go.Proofs.Ytfcphfdfpjmgiaa
